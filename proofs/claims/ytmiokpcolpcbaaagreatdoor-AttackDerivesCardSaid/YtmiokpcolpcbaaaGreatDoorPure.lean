/- The plain functions on texts that the layer's functions compute, and their laws. No program in sight. -/
import Derived.KernelRfl
namespace Go.Proofs.YtmiokpcolpcbaaaGreatDoor

abbrev Str := List UInt8

/-- Is a text in a list? -/
def hasB (l : List Str) (s : Str) : Bool := l.contains s

theorem hasB_iff {l : List Str} {s : Str} : hasB l s = true ↔ s ∈ l := by simp [hasB]
theorem hasB_take_succ {l : List Str} {k : Nat} {t s : Str} (hk : l[k]? = some t) (h : hasB (l.take k) s = false) (hne : (t == s) = false) : hasB (l.take (k + 1)) s = false := by
  unfold hasB at *
  rw [List.take_add_one, hk]
  simp only [Option.toList_some, List.contains_eq_any_beq, List.any_append, List.any_cons, List.any_nil, Bool.or_false] at h ⊢
  rw [h, Bool.false_or, beq_eq_false_iff_ne]
  exact fun e => by rw [e] at hne; simp at hne
theorem hasB_of {l : List Str} {k : Nat} {t s : Str} (hk : l[k]? = some t) (he : (t == s) = true) : hasB l s = true := by
  rw [hasB_iff]
  obtain rfl : t = s := by simpa using he
  exact List.mem_of_getElem? hk

/-- Are lists alike? -/
def sameB (a b : List Str) : Bool := a == b
theorem sameB_of_take {a b : List Str} (hl : a.length = b.length) (h : sameB (a.take a.length) (b.take a.length) = true) : sameB a b = true := by
  rw [List.take_length, hl, List.take_length] at h; exact h
theorem sameB_len {a b : List Str} (hl : a.length ≠ b.length) : sameB a b = false := by
  unfold sameB; rw [beq_eq_false_iff_ne]; exact fun e => hl (by rw [e])
theorem sameB_no {a b : List Str} {k : Nat} {s t : Str} (ha : a[k]? = some s) (hb : b[k]? = some t) (h : (s == t) = false) : sameB a b = false := by
  unfold sameB; rw [beq_eq_false_iff_ne]; intro e; rw [e, hb] at ha; simp at ha; rw [ha] at h; simp at h
theorem sameB_yes {a b : List Str} {k : Nat} {s t : Str} (ha : a[k]? = some s) (hb : b[k]? = some t) (h : (s == t) = true) (hn : sameB (a.take k) (b.take k) = true) : sameB (a.take (k + 1)) (b.take (k + 1)) = true := by
  unfold sameB at *
  rw [List.take_add_one, List.take_add_one, ha, hb, eq_of_beq hn, eq_of_beq h]
  simp

/-! ### Reading a term -/

/-- A text, cut at its commas that aren't within brackets: what is left, the depth, the piece at hand. -/
def cutGo : Str → Int → Str → List Str
  | [], _, cur => [cur]
  | c :: r, d, cur =>
    if c = 40 then cutGo r (d + 1) (cur ++ [c])
    else if c = 41 then cutGo r (d - 1) (cur ++ [c])
    else if c = 44 ∧ d = 0 then cur :: cutGo r d []
    else cutGo r d (cur ++ [c])

def cutS (s : Str) : List Str := cutGo s 0 []

/-- How many bytes stand ahead of the first opening bracket. -/
def headLen (s : Str) : Nat := (s.takeWhile (· != 40)).length

/-- A text as a term: its head, what stands between its brackets; no head: it is none. -/
def rd (s : Str) : Str × List Str :=
  if headLen s = s.length ∨ s.getLast? ≠ some 41 then ([], [])
  else (s.take (headLen s), cutS ((s.drop (headLen s + 1)).dropLast))

theorem headLen_of {s : Str} {k : Nat} (hk : k < s.length) (hn : ∀ j, j < k → s[j]? ≠ some 40) (h : s[k]? = some 40) : headLen s = k := by
  induction s generalizing k with
  | nil => simp at hk
  | cons c r ih =>
    unfold headLen at *
    cases k with
    | zero => simp at h; subst h; simp
    | succ k =>
      have h0 := hn 0 (by omega)
      simp at h0
      have h1 : (c != 40) = true := by simpa using h0
      rw [List.takeWhile_cons_of_pos (by simpa using h1), List.length_cons, ih (by simpa using hk) (fun j hj => by have := hn (j + 1) (by omega); simpa using this) (by simpa using h)]
theorem headLen_end {s : Str} (hn : ∀ j, j < s.length → s[j]? ≠ some 40) : headLen s = s.length := by
  unfold headLen
  induction s with
  | nil => rfl
  | cons c r ih =>
    have h0 := hn 0 (by simp)
    simp at h0
    rw [List.takeWhile_cons_of_pos (by simpa using h0), List.length_cons, List.length_cons, ih (fun j hj => by have := hn (j + 1) (by simp; omega); simpa using this)]

/-- One byte more. -/
theorem take_drop_succ {s : Str} {f i : Nat} {c : UInt8} (hfi : f ≤ i) (hc : s[i]? = some c) : (s.take (i + 1)).drop f = (s.take i).drop f ++ [c] := by
  rw [List.take_add_one, hc, List.drop_append_of_le_length (by have := (List.getElem?_eq_some_iff.1 hc).1; simp; omega)]
  rfl
theorem drop_cons {s : Str} {i : Nat} {c : UInt8} (hc : s[i]? = some c) : s.drop i = c :: s.drop (i + 1) := by
  obtain ⟨h1, h2⟩ := List.getElem?_eq_some_iff.1 hc
  rw [List.drop_eq_getElem_cons h1, h2]
/-- What is still to be cut, one byte on. -/
theorem cutGo_step {s : Str} {n i f : Nat} {d : Int} {c : UInt8} (hfi : f ≤ i) (hin : i < n) (hc : s[i]? = some c) :
    cutGo ((s.take n).drop i) d ((s.take i).drop f) =
      if c = 40 then cutGo ((s.take n).drop (i + 1)) (d + 1) ((s.take (i + 1)).drop f)
      else if c = 41 then cutGo ((s.take n).drop (i + 1)) (d - 1) ((s.take (i + 1)).drop f)
      else if c = 44 ∧ d = 0 then (s.take i).drop f :: cutGo ((s.take n).drop (i + 1)) d ((s.take (i + 1)).drop (i + 1))
      else cutGo ((s.take n).drop (i + 1)) d ((s.take (i + 1)).drop f) := by
  have h1 : (s.take n)[i]? = some c := by rw [List.getElem?_take, if_pos hin, hc]
  have h2 : (s.take (i + 1)).drop (i + 1) = [] := by rw [List.drop_eq_nil_iff, List.length_take]; omega
  rw [drop_cons h1, cutGo, take_drop_succ hfi hc, h2]

theorem cutGo_end {s : Str} {n f : Nat} {d : Int} : cutGo ((s.take n).drop n) d ((s.take n).drop f) = [(s.take n).drop f] := by
  have : (s.take n).drop n = [] := by rw [List.drop_eq_nil_iff, List.length_take]; omega
  rw [this, cutGo]
theorem rd_none {s : Str} (h : headLen s = s.length) : rd s = ([], []) := by unfold rd; simp [h]
theorem rd_none' {s : Str} {c : UInt8} (h : s[s.length - 1]? = some c) (hc : c ≠ 41) : rd s = ([], []) := by
  unfold rd; rw [if_pos (Or.inr (by rw [List.getLast?_eq_getElem?, h]; simpa using hc))]
theorem rd_some {s : Str} {k : Nat} (hk : headLen s = k) (hlt : k + 1 < s.length) (h : s[s.length - 1]? = some 41) : rd s = (s.take k, cutGo ((s.take (s.length - 1)).drop (k + 1)) 0 ((s.take (k + 1)).drop (k + 1))) := by
  unfold rd
  rw [if_neg ?_, hk]
  · have h2 : (s.take (k + 1)).drop (k + 1) = [] := by rw [List.drop_eq_nil_iff, List.length_take]; omega
    rw [h2]
    unfold cutS
    rw [List.dropLast_eq_take, List.take_drop, List.length_drop, show k + 1 + (s.length - (k + 1) - 1) = s.length - 1 by omega]
  · rintro (h' | h')
    · omega
    · rw [List.getLast?_eq_getElem?, h] at h'; exact h' rfl
end Go.Proofs.YtmiokpcolpcbaaaGreatDoor