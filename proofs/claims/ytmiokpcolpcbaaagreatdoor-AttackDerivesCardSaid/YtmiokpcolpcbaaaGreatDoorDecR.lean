/- Decimal, num, Number of the references. -/
import Derived.Test.YtmiokpcolpcbaaaGreatDoorLib
import Derived.Laws.IdiomStrings
namespace Go.Proofs.YtmiokpcolpcbaaaGreatDoor
open Go.RowKit

theorem dec_small {u : Nat} (h : u < 10) : Lib.decDigits u = [UInt8.ofNat (48 + u)] := by unfold Lib.decDigits; rw [dif_pos h]
theorem dec_step {u : Nat} (h : ¬ u < 10) : Lib.decDigits u = Lib.decDigits (u / 10) ++ [UInt8.ofNat (48 + u % 10)] := by rw [Lib.decDigits]; rw [dif_neg h]

theorem conv_one (src dst e : TypeId) (hs : Tryz.prog.underlying src = some (.slice e)) (he : Tryz.prog.underlying e = some (.int .u8)) (hd : Tryz.prog.underlying dst = some .string)
    (w : World) (n : Int) (b : UInt8) (hn : n = (b.toNat : Int)) :
    Sem.run Tryz.prog (convert src dst (.slice (some ⟨w.heap.size, 0, none⟩) 1 1)) (w.alloc (.cells #[.int .u8 n] e)) = .ok (st [b]) (w.alloc (.cells #[.int .u8 n] e)) := by
  subst hn
  have := run_convert_bytes_back (P := Tryz.prog) (w.alloc (.cells #[.int .u8 (b.toNat : Int)] e)) src dst e ⟨w.heap.size, 0, none⟩ 1 [b] hs he hd (by
    intro j hj
    have : j = 0 := by simpa using hj
    subst this
    simp [Addr.add])
  simpa [st] using this

theorem digit_int (u : Nat) (h : u < 10) : (48 + (u : Int)) = ((UInt8.ofNat (48 + u)).toNat : Int) := by
  have : (UInt8.ofNat (48 + u)).toNat = 48 + u := by simp [UInt8.toNat_ofNat']; omega
  rw [this]; simp

set_option maxRecDepth 100000 in
set_option maxHeartbeats 1000000 in
theorem decimal_ref (n : Nat) (hn : n < 1000000) (w : World) :
    Calls Tryz.prog 62 #[.int .i64 n] w fun e w' => e = .returned (st (Lib.decDigits n)) ∧ Below w.heap.size w w' := by
  have hcat := bcat
  go_enter Tryz.func62, Tryz.ntmps62
  go_wp2
  go_loopw [3, 5] (fun u s wr => ∃ (x : Nat) (t : Str), x ≤ n ∧ u = .int .u64 x ∧ s = st t ∧ Lib.decDigits x ++ t = Lib.decDigits n ∧ t.length + x ≤ 1000000 ∧ Below w.heap.size w wr) (fun u _ _ => (intOf u).toNat)
  case atStart => exact ⟨n, [], Nat.le_refl _, rfl, rfl, by simp, by simp; omega, Below.refl _ _⟩
  case round =>
    obtain ⟨x, t, hx, rfl, rfl, h1, h2, h3⟩ := hrel
    have H1 := Lib.hid h1; clear h1
    have hlx : 1 + t.length ≤ 2000000 := by omega
    by_cases hlt : x < 10
    · go_wp2
      rw [conv_one 35 9 5 rfl rfl rfl wr _ (UInt8.ofNat (48 + x)) (digit_int x hlt)]
      go_wp2
      have hr : [48 + UInt8.ofNat x] ++ t = Lib.decDigits n := by rw [← H1.out, dec_small hlt]; simp
      go_ret
      exact ⟨by rw [← hr]; rfl, (by repeat (first | exact Below.refl _ _ | exact h3 | refine Below.trans ?_ (Below.mono h3 (by first | (simp; done) | (simp; omega) | omega)) | refine Below.setCell ?_ (by first | (simp; done) | (simp; omega) | (have hszq := (h3).size; simp at hszq ⊢; omega)) _ | refine Below.alloc ?_ (by first | (simp; done) | (simp; omega) | (have hszq := (h3).size; simp at hszq ⊢; omega)) _ | refine below_drewN ?_ _ | refine Below.drew ?_))⟩
    · go_wp2
      rw [conv_one 35 9 5 rfl rfl rfl wr _ (UInt8.ofNat (48 + x % 10)) (by have := digit_int (x % 10) (Nat.mod_lt _ (by omega)); rw [← this]; simp)]
      go_wp2
      refine ⟨⟨x / 10, (48 + UInt8.ofNat (x % 10)) :: t, by omega, by simp, rfl, ?_, ?_, (by repeat (first | exact Below.refl _ _ | exact h3 | refine Below.trans ?_ (Below.mono h3 (by first | (simp; done) | (simp; omega) | omega)) | refine Below.setCell ?_ (by first | (simp; done) | (simp; omega) | (have hszq := (h3).size; simp at hszq ⊢; omega)) _ | refine Below.alloc ?_ (by first | (simp; done) | (simp; omega) | (have hszq := (h3).size; simp at hszq ⊢; omega)) _ | refine below_drewN ?_ _ | refine Below.drew ?_))⟩, ?_⟩
      · have hr := H1.out
        rw [dec_step hlt] at hr
        simpa using hr
      · simp; omega
      · simp [intOf]; omega

set_option maxHeartbeats 1000000 in
theorem num_ref (n : Nat) (hn : n < 1000000) (w : World) :
    Calls Tryz.prog 37 #[.int .i64 n] w fun e w' => e = .returned (st (Lib.decDigits n)) ∧ Below w.heap.size w w' := by
  go_enter Tryz.func37, Tryz.ntmps37
  go_wp2_with fail
  refine (decimal_ref n hn w).mono ?_
  rintro e w' ⟨rfl, hb⟩
  go_wp2
  go_ret
  exact ⟨rfl, hb⟩

/-- The number of a text, below a bound; -1: it is none. -/
def numS (s : Str) (b : Nat) : Int := match (List.range b).find? (fun i => Lib.decDigits i == s) with
  | some i => i
  | none => -1
theorem numS_hit {s : Str} {b k : Nat} (hk : k < b) (h : (Lib.decDigits k == s) = true) (hn : ∀ j < k, (Lib.decDigits j == s) = false) : numS s b = k := by
  unfold numS
  have : (List.range b).find? (fun i => Lib.decDigits i == s) = some k := by
    rw [List.find?_range_eq_some]
    exact ⟨by simpa using h, by simpa using hk, fun j hj => by have := hn j hj; simpa using this⟩
  rw [this]
theorem numS_none {s : Str} {b : Nat} (hn : ∀ j < b, (Lib.decDigits j == s) = false) : numS s b = -1 := by
  unfold numS
  have : (List.range b).find? (fun i => Lib.decDigits i == s) = none := by
    rw [List.find?_range_eq_none]
    exact fun j hj => by have := hn j hj; simpa using this
  rw [this]

set_option maxHeartbeats 1000000 in
theorem number_ref (s : Str) (b : Nat) (hb : b < 1000) (w : World) :
    Calls Tryz.prog 87 #[st s, .int .i64 b] w fun e w' => e = .returned (.int .i64 (numS s b)) ∧ Below w.heap.size w w' := by
  go_enter Tryz.func87, Tryz.ntmps87
  go_wp2
  go_loopw [5] (fun i wr => ∃ k : Nat, k ≤ b ∧ i = .int .i64 k ∧ (∀ j < k, (Lib.decDigits j == s) = false) ∧ Below w.heap.size w wr) (fun i _ => b - (intOf i).toNat)
  case atStart => exact ⟨0, Nat.zero_le _, rfl, by simp, Below.refl _ _⟩
  case round =>
    obtain ⟨k, hk, rfl, hn, hw⟩ := hrel
    have HN := Lib.hid hn; clear hn
    by_cases hlt : k < b
    · go_wp2_with fail
      refine (num_ref k (by omega) wr).mono ?_
      rintro e w' ⟨rfl, hb2⟩
      have hw2 := hw.trans (hb2.mono hw.size)
      by_cases he : (Lib.decDigits k == s) = true
      · have hr := numS_hit hlt he HN.out
        go_wp2
        go_ret
        exact ⟨by rw [hr]; rfl, hw2⟩
      · have he' : (Lib.decDigits k == s) = false := by simpa using he
        have HN2 := Lib.hid (show ∀ j < k + 1, (Lib.decDigits j == s) = false from fun j hj => by
          by_cases h1 : j = k
          · rw [h1]; exact he'
          · exact HN.out j (by omega))
        go_wp2
        go_roundw
        case rel => exact ⟨k + 1, by omega, by go_num, HN2.out, hw2⟩
        case measure => simp [intOf]; omega
    · have hke : k = b := by omega
      subst hke
      have hr := numS_none HN.out
      go_wp2
      go_ret
      exact ⟨by rw [hr]; rfl, hw⟩
end Go.Proofs.YtmiokpcolpcbaaaGreatDoor
