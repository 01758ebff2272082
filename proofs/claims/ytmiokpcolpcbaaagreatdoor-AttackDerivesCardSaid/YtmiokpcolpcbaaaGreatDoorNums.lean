/- Numbers' texts: plain laws. -/
import Derived.Test.YtmiokpcolpcbaaaGreatDoorDecR
import Derived.Lib.Atoi
namespace Go.Proofs.YtmiokpcolpcbaaaGreatDoor

theorem digitVal_dec {u : Nat} (h : u < 10) : Lib.digitVal (UInt8.ofNat (48 + u)) = some u := by
  have : (UInt8.ofNat (48 + u)).toNat = 48 + u := by simp [UInt8.toNat_ofNat']; omega
  unfold Lib.digitVal
  rw [this, if_pos (by omega)]; congr 1; omega
theorem decFrom_snoc : ∀ (l : List UInt8) (acc : Nat) (b : UInt8) (d n : Nat), Lib.decFrom acc l = some n → Lib.digitVal b = some d → Lib.decFrom acc (l ++ [b]) = some (n * 10 + d)
  | [], acc, b, d, n, h, hd => by simp [Lib.decFrom] at h; subst h; simp [Lib.decFrom, hd]
  | a :: l, acc, b, d, n, h, hd => by
    simp only [List.cons_append, Lib.decFrom] at h ⊢
    cases ha : Lib.digitVal a with
    | none => simp [ha] at h
    | some e => simp only [ha] at h ⊢; exact decFrom_snoc l _ b d n h hd
theorem decFrom_dec (n : Nat) : Lib.decFrom 0 (Lib.decDigits n) = some n := by
  induction n using Nat.strongRecOn with
  | _ n ih =>
    by_cases h : n < 10
    · rw [dec_small h]; simp only [Lib.decFrom, digitVal_dec h]; simp
    · rw [dec_step h, decFrom_snoc _ _ _ _ _ (ih (n / 10) (by omega)) (digitVal_dec (Nat.mod_lt _ (by omega)))]
      congr 1; omega
theorem dec_ne (n : Nat) : Lib.decDigits n ≠ [] := by
  by_cases h : n < 10
  · rw [dec_small h]; simp
  · rw [dec_step h]; simp
theorem decNat_dec (n : Nat) : Lib.decNat (Lib.decDigits n) = some n := by
  unfold Lib.decNat
  rw [if_neg (by simpa using dec_ne n)]
  exact decFrom_dec n
theorem dec_inj {m n : Nat} (h : Lib.decDigits m = Lib.decDigits n) : m = n := by
  have h1 := decFrom_dec m
  rw [h, decFrom_dec n] at h1
  simpa using h1.symm
theorem dec_digit (n : Nat) : ∀ b ∈ Lib.decDigits n, 48 ≤ b.toNat ∧ b.toNat ≤ 57 := by
  induction n using Nat.strongRecOn with
  | _ n ih =>
    have hone : ∀ u, u < 10 → 48 ≤ (UInt8.ofNat (48 + u)).toNat ∧ (UInt8.ofNat (48 + u)).toNat ≤ 57 := by
      intro u h
      have : (UInt8.ofNat (48 + u)).toNat = 48 + u := by simp [UInt8.toNat_ofNat']; omega
      rw [this]; omega
    by_cases h : n < 10
    · rw [dec_small h]; intro b hb; rw [List.mem_singleton] at hb; subst hb; exact hone n h
    · rw [dec_step h]; intro b hb
      rcases List.mem_append.1 hb with hb | hb
      · exact ih (n / 10) (by omega) b hb
      · rw [List.mem_singleton] at hb; subst hb; exact hone _ (Nat.mod_lt _ (by omega))
theorem atoi_dec (n : Nat) : Lib.atoi (Lib.decDigits n) = some (n : Int) := by
  cases hd : Lib.decDigits n with
  | nil => exact absurd hd (dec_ne n)
  | cons b r =>
    have hb := dec_digit n b (by rw [hd]; simp)
    unfold Lib.atoi
    simp only
    rw [if_neg (by intro e; rw [beq_iff_eq] at e; subst e; simp at hb), if_neg (by intro e; rw [beq_iff_eq] at e; subst e; simp at hb), ← hd, decNat_dec]
    rfl
theorem numS_dec {n b : Nat} (h : n < b) : numS (Lib.decDigits n) b = n :=
  numS_hit h (by simp) (fun j hj => by rw [beq_eq_false_iff_ne]; exact fun e => by have := dec_inj e; omega)

/-- The piece that a text names. -/
def pieceS (s : Str) : Int × Int := (numS ((rd s).2.getD 0 []) 20, numS ((rd s).2.getD 1 []) 255)
end Go.Proofs.YtmiokpcolpcbaaaGreatDoor
