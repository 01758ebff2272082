/- Plain laws that join the library's functions on bytes to ours. -/
import Derived.Test.YtmiokpcolpcbaaaGreatDoorPure
import Derived.Lib.IndexMore
import Derived.Lib.Strings
import Derived.Lib.ItoaNum
import Derived.Lib.Join
import GoSem.Op.String
namespace Go.Proofs.YtmiokpcolpcbaaaGreatDoor

theorem index_paren : ∀ s : Str, Lib.index s [40] = if headLen s < s.length then (headLen s : Int) else -1
  | [] => rfl
  | b :: l => by
    have ih := index_paren l
    by_cases hb : b = 40
    · subst hb
      simp [Lib.index, headLen]
    · have h1 : headLen (b :: l) = headLen l + 1 := by
        unfold headLen; rw [List.takeWhile_cons_of_pos (by simpa using hb)]; rfl
      have h2 : List.isPrefixOf [40] (b :: l) = false := by simp [List.isPrefixOf]; exact fun e => hb e.symm
      unfold Lib.index
      rw [h2, if_neg (by simp), ih, h1, List.length_cons]
      by_cases h : headLen l < l.length
      · rw [if_pos h, if_neg (by simp), if_pos (by omega)]; omega
      · rw [if_neg h, if_pos (by simp), if_neg (by omega)]

theorem headLen_le (s : Str) : headLen s ≤ s.length := by unfold headLen; exact (List.takeWhile_prefix _).length_le

theorem cut_paren (s : Str) : Lib.cut s [40] = if headLen s < s.length then (s.take (headLen s), s.drop (headLen s + 1), true) else (s, [], false) := by
  unfold Lib.cut
  rw [index_paren]
  by_cases h : headLen s < s.length
  · simp only [h, if_true]
    rw [if_pos (by omega)]; simp
  · simp only [h, if_false]; simp

theorem headLen_at {s : Str} (h : headLen s < s.length) : s[headLen s]? = some 40 := by
  induction s with
  | nil => simp at h
  | cons b l ih =>
    by_cases hb : b = 40
    · subst hb; simp [headLen]
    · have h1 : headLen (b :: l) = headLen l + 1 := by
        unfold headLen; rw [List.takeWhile_cons_of_pos (by simpa using hb)]; rfl
      rw [h1] at h ⊢
      simpa using ih (by simpa using h)

theorem suffix_one (r : Str) : Lib.hasSuffix r [41] = (r.getLast? == some 41) := by
  unfold Lib.hasSuffix
  rw [Bool.eq_iff_iff, List.isSuffixOf_iff_suffix, beq_iff_eq]
  constructor
  · rintro ⟨p, rfl⟩; simp
  · intro h
    obtain ⟨h1, h2⟩ := List.getLast?_eq_some_iff.1 h
    exact ⟨h1, h2.symm⟩

theorem last_of_drop {s : Str} (h : headLen s < s.length) : (s.getLast? = some 41) ↔ (s.drop (headLen s + 1)).getLast? = some 41 := by
  have h40 := headLen_at h
  by_cases hl : headLen s + 1 < s.length
  · rw [List.getLast?_drop, if_neg (by omega)]
  · have h2 : headLen s = s.length - 1 := by omega
    rw [List.getLast?_eq_getElem?, ← h2, h40, List.drop_eq_nil_iff.2 (by omega)]
    simp

theorem rd_of_no {s : Str} (h : ¬ headLen s < s.length) : rd s = ([], []) := rd_none (by have := headLen_le s; omega)
theorem rd_of_open {s : Str} (h : headLen s < s.length) (hs : Lib.hasSuffix (s.drop (headLen s + 1)) [41] = false) : rd s = ([], []) := by
  rw [suffix_one, beq_eq_false_iff_ne] at hs
  unfold rd; rw [if_pos (Or.inr (fun e => hs ((last_of_drop h).1 e)))]
theorem rd_of_shut {s : Str} (h : headLen s < s.length) (hs : Lib.hasSuffix (s.drop (headLen s + 1)) [41] = true) :
    rd s = (s.take (headLen s), cutS ((s.drop (headLen s + 1)).take ((s.drop (headLen s + 1)).length - 1))) ∧ 1 ≤ (s.drop (headLen s + 1)).length := by
  rw [suffix_one, beq_iff_eq] at hs
  refine ⟨?_, ?_⟩
  · unfold rd; rw [if_neg ?_, List.dropLast_eq_take]
    rintro (h' | h')
    · omega
    · exact h' ((last_of_drop h).2 hs)
  · cases hr : s.drop (headLen s + 1) with
    | nil => rw [hr] at hs; simp at hs
    | cons a b => simp

/-! ### heads -/
def hd (s : Str) : Str := (rd s).1
def sHash : Str := [104, 97, 115, 104]
def sKey : Str := [107, 101, 121]
def sOwn : Str := [111, 119, 110]
def sXor : Str := [120, 111, 114]
def sPiece : Str := [112, 105, 101, 99, 101]
def sHidden : Str := [104, 105, 100, 100, 101, 110]
def sInside : Str := [105, 110, 115, 105, 100, 101]
def sHide : Str := [104, 105, 100, 101]
/-- Has a term 32 bytes? -/
def flatB (s : Str) : Bool := hd s == sHash || hd s == sKey || hd s == sOwn || hd s == sXor
/-- What a term is the xor of. -/
def partsS (s : Str) : List Str := if hd s = sXor then (rd s).2 else [s]
/-- What is in the one list, and not in the other. -/
def onlyIn (l m : List Str) : List Str := l.filter fun s => !hasB m s
theorem onlyIn_succ {l m : List Str} {k : Nat} {t : Str} (hk : l[k]? = some t) : onlyIn (l.take (k + 1)) m = if hasB m t then onlyIn (l.take k) m else onlyIn (l.take k) m ++ [t] := by
  unfold onlyIn
  rw [List.take_add_one, hk, List.filter_append]
  cases h : hasB m t <;> simp [h]
theorem onlyIn_le (l m : List Str) : (onlyIn l m).length ≤ l.length := List.length_filter_le _ _
theorem onlyIn_nil (m : List Str) : onlyIn [] m = [] := rfl
/-- A text into a list that rises. -/
def insertS : List Str → Str → List Str
  | [], s => [s]
  | t :: r, s => if Op.bytesLess s t = true then s :: t :: r else t :: insertS r s
/-- .. what is still to come, with the mark whether it is in already. -/
def insRest (l : List Str) (s : Str) (put : Bool) : List Str := if put then l else insertS l s
theorem insRest_put {l : List Str} {k : Nat} {t s : Str} (hk : l[k]? = some t) : insRest (l.drop k) s true = t :: insRest (l.drop (k + 1)) s true := by
  obtain ⟨h1, h2⟩ := List.getElem?_eq_some_iff.1 hk
  simp only [insRest, if_true]
  rw [List.drop_eq_getElem_cons h1, h2]
theorem insRest_less {l : List Str} {k : Nat} {t s : Str} (hk : l[k]? = some t) (h : Op.bytesLess s t = true) : insRest (l.drop k) s false = s :: t :: insRest (l.drop (k + 1)) s true := by
  obtain ⟨h1, h2⟩ := List.getElem?_eq_some_iff.1 hk
  simp only [insRest, if_true, Bool.false_eq_true, if_false]
  rw [List.drop_eq_getElem_cons h1, h2, insertS, if_pos h]
theorem insRest_more {l : List Str} {k : Nat} {t s : Str} (hk : l[k]? = some t) (h : Op.bytesLess s t = false) : insRest (l.drop k) s false = t :: insRest (l.drop (k + 1)) s false := by
  obtain ⟨h1, h2⟩ := List.getElem?_eq_some_iff.1 hk
  simp only [insRest, Bool.false_eq_true, if_false]
  rw [List.drop_eq_getElem_cons h1, h2, insertS, if_neg (by simp [h])]
theorem insRest_end (l : List Str) (s : Str) (put : Bool) : insRest (l.drop l.length) s put = if put then [] else [s] := by
  simp only [insRest, List.drop_length, insertS]
theorem insertS_length (l : List Str) (s : Str) : (insertS l s).length = l.length + 1 := by
  induction l with
  | nil => rfl
  | cons t r ih => unfold insertS; split <;> simp [ih]
/-- All of a list, into a list that rises. -/
def insAll (z l : List Str) : List Str := l.foldl insertS z
theorem insAll_snoc (z l : List Str) (t : Str) : insAll z (l ++ [t]) = insertS (insAll z l) t := by simp [insAll]
theorem insAll_append (z l m : List Str) : insAll z (l ++ m) = insAll (insAll z l) m := by simp [insAll]
theorem insAll_length (z l : List Str) : (insAll z l).length = z.length + l.length := by
  induction l generalizing z with
  | nil => rfl
  | cons a l ih => simp only [insAll, List.foldl_cons, List.length_cons] at ih ⊢; rw [ih, insertS_length]; omega

/-- A term's text. -/
def toldS (head : Str) (args : List Str) : Str := head ++ [40] ++ Lib.join args [44] ++ [41]
/-- What a list of terms makes. -/
def finS (l : List Str) : Str := match l with
  | [] => toldS sOwn [[48]]
  | [a] => a
  | l => toldS sXor l
theorem told_cons (u : Str) (r : List Str) (h : r ≠ []) : toldS sXor (u :: r) = (sXor ++ [40] ++ u) ++ Lib.joinTail [44] r ++ [41] := by
  simp [toldS, Lib.join_cons]
end Go.Proofs.YtmiokpcolpcbaaaGreatDoor
