/- The reference's Xor is the package's: a list that rises, made by inserting, is the sorted one. No program in sight. -/
import Derived.Test.YtmiokpcolpcbaaaGreatDoorXorR
import Derived.Test.YtmiokpcolpcbaaaGreatDoorXorA
import Derived.Sort.Walk0
namespace Go.Proofs.YtmiokpcolpcbaaaGreatDoor

theorem str_le_total (a b : Str) : a ≤ b ∨ b ≤ a := List.le_total a b
theorem str_le_trans {a b c : Str} (h : a ≤ b) (k : b ≤ c) : a ≤ c := List.le_trans h k
theorem str_le_antisymm {a b : Str} (h : a ≤ b) (k : b ≤ a) : a = b := List.le_antisymm h k
theorem str_le_of_lt {a b : Str} (h : a < b) : a ≤ b := List.le_of_lt h
theorem str_le_of_not {a b : Str} (h : ¬ a < b) : b ≤ a := List.not_lt.1 h

theorem ins_perm (s : Str) : ∀ l : List Str, (insertS l s).Perm (s :: l)
  | [] => List.Perm.refl _
  | t :: r => by
    unfold insertS
    split
    · exact List.Perm.refl _
    · exact ((ins_perm s r).cons t).trans (List.Perm.swap s t r)
theorem ins_mem {s x : Str} {l : List Str} (h : x ∈ insertS l s) : x = s ∨ x ∈ l := by
  have := (ins_perm s l).mem_iff.1 h
  simpa using this
theorem ins_sorted (s : Str) : ∀ {l : List Str}, l.Pairwise (· ≤ ·) → (insertS l s).Pairwise (· ≤ ·)
  | [], _ => by simp [insertS]
  | t :: r, h => by
    rw [List.pairwise_cons] at h
    unfold insertS
    split
    · rename_i hl
      rw [bytesLess_eq] at hl
      have hst := str_le_of_lt (of_decide_eq_true hl)
      rw [List.pairwise_cons, List.pairwise_cons]
      refine ⟨fun x hx => ?_, h⟩
      rcases List.mem_cons.1 hx with rfl | hx
      · exact hst
      · exact str_le_trans hst (h.1 x hx)
    · rename_i hl
      rw [bytesLess_eq] at hl
      have hts := str_le_of_not (fun hlt => hl (decide_eq_true hlt))
      rw [List.pairwise_cons]
      refine ⟨fun x hx => ?_, ins_sorted s h.2⟩
      rcases ins_mem hx with rfl | hx
      · exact hts
      · exact h.1 x hx
theorem insAll_perm : ∀ (l z : List Str), (insAll z l).Perm (z ++ l)
  | [], z => by simp [insAll]
  | a :: l, z => by
    have h1 := insAll_perm l (insertS z a)
    have h2 : (insertS z a ++ l).Perm (z ++ a :: l) := ((ins_perm a z).append_right l).trans (by simpa using (List.perm_middle (a := a) (l₁ := z) (l₂ := l)).symm)
    exact h1.trans h2
theorem insAll_sorted : ∀ (l z : List Str), z.Pairwise (· ≤ ·) → (insAll z l).Pairwise (· ≤ ·)
  | [], _, h => h
  | a :: l, _, h => insAll_sorted l _ (ins_sorted a h)
theorem insAll_sort (l : List Str) : insAll [] l = sortS l := by
  refine List.Perm.eq_of_pairwise (le := fun a b => a ≤ b) (fun a b _ _ h k => str_le_antisymm h k) (insAll_sorted l [] List.Pairwise.nil) ?_ ?_
  · have := List.pairwise_mergeSort (le := fun x y : Str => decide (x ≤ y)) (fun a b c h k => by simp only [decide_eq_true_eq] at *; exact str_le_trans h k) (fun a b => by simp only [Bool.or_eq_true, decide_eq_true_eq]; exact str_le_total a b) l
    exact this.imp fun h => of_decide_eq_true h
  · exact (insAll_perm l []).trans (List.mergeSort_perm l _).symm
theorem xorR_eq (s t : Str) : xorR s t = xorS s t := by
  unfold xorR xorS xorRL xorL
  rw [← insAll_append, insAll_sort]
theorem xorRL_eq (s t : Str) : xorRL s t = sortS (xorL s t) := by
  unfold xorRL xorL
  rw [← insAll_append, insAll_sort]
end Go.Proofs.YtmiokpcolpcbaaaGreatDoor
