/- The library's contracts, in the words of Base; the package's told. -/
import Derived.Test.YtmiokpcolpcbaaaGreatDoorBase
import Derived.Test.YtmiokpcolpcbaaaGreatDoorPureL
import Derived.Test.YtmiokpcolpcbaaaGreatDoorShelf
import Derived.Sort.OwnSorted
import Derived.Lib.LaidTab
import Derived.Lib.SmallJoins
namespace Go.Proofs.YtmiokpcolpcbaaaGreatDoor
open Go.RowKit

/-- The package-level variables of the library, as they are laid. -/
structure Glob (w : World) : Prop where
  max : ∃ m : Int, w.cell? ⟨0, 0, none⟩ = some (.int .i64 m)
  pow : Lib.TabIs Tryz.prog w "internal/strconv.uint64pow10" .u64 Lib.pow10Tab
  big : 2 ≤ w.heap.size

theorem gPow : Tryz.prog.globalNamed "internal/strconv.uint64pow10" = some 1 := by kernel_rfl

theorem Glob.mono {w w' : World} (h : Glob w) (hb : Below w.heap.size w w') : Glob w' := by
  have hB := h.big
  refine ⟨?_, ?_, Nat.le_trans hB hb.size⟩
  · obtain ⟨m, hm⟩ := h.max; exact ⟨m, (hb.cell (p := ⟨0, 0, none⟩) (by simp; omega)).trans hm⟩
  · exact Joins.tab_stays gPow h.pow hb (Nat.le_refl _)

theorem below_drewN' (w : World) (n : Nat) : Below w.heap.size w (w.drewN n) := below_drewN (Below.refl _ _) n
theorem below_grow (w : World) (k : Nat) (os : Array _root_.Go.Obj) : Below w.heap.size w (Sort.grow (w.drewN k) os) :=
  ⟨rfl, rfl, rfl, by simp [Sort.grow], fun i hi => by simp [Sort.grow, Array.getElem?_append, hi]⟩

theorem Strs.cells {w : World} {b off cap n : Nat} {l : List Str} (h : Strs w (.slice (some ⟨b, off, none⟩) n cap) l) : ∀ (j : Nat) x, (l.map fun t => (⟨t.toArray⟩ : ByteArray))[j]? = some x → w.cell? ⟨b, off + j, none⟩ = some (.string x) := by
  intro j x hx
  rw [List.getElem?_map, Option.map_eq_some_iff] at hx
  obtain ⟨t, ht, rfl⟩ := hx
  obtain ⟨b', off', h1, _, h2⟩ := h.get ht
  cases h1
  exact h2

theorem map_data (l : List Str) : (l.map fun t => (⟨t.toArray⟩ : ByteArray)).map (·.data.toList) = l := by
  rw [List.map_map]; conv => rhs; rw [← List.map_id l]
  exact List.map_congr_left fun t _ => rfl

/-- strings.Join. -/
theorem join_any (v : Value) (l : List Str) (sep : Str) (w : World) (h : Strs w v l) (hl : l.length ≤ 1000000000) (hj : (Lib.join l sep).length ≤ 1000000000) :
    Calls Tryz.prog 56 #[v, st sep] w fun e w' => e = .returned (st (Lib.join l sep)) ∧ Below w.heap.size w w' := by
  obtain ⟨a, cap, rfl, hcap⟩ := h.split
  cases l with
  | nil => exact (Tryz.strings_Join_none a cap ⟨sep.toArray⟩ w).mono fun e w' ⟨h1, h2⟩ => ⟨by rw [h1]; rfl, by rw [h2]; exact Below.refl _ _⟩
  | cons t r =>
    obtain ⟨b, off, rfl, hb, _⟩ := h.get (i := 0) (t := t) rfl
    have hd := map_data (t :: r)
    have := Tryz.strings_Join b off cap ((t :: r).map fun t => (⟨t.toArray⟩ : ByteArray)) ⟨sep.toArray⟩ w h.cells hb (by simp at hl ⊢; omega) (by simpa using hcap) (by rw [hd]; exact Nat.le_trans hj (by omega))
    rw [hd, List.length_map] at this
    exact this

set_option maxHeartbeats 400000 in
theorem told_any (head : Str) (v : Value) (l : List Str) (w : World) (h : Strs w v l) (hh : head.length ≤ 1000000) (hl : l.length ≤ 1000000) (hj : (Lib.join l [44]).length ≤ 1000000) :
    Calls Tryz.prog 27 #[st head, v] w fun e w' => e = .returned (st (toldS head l)) ∧ Below w.heap.size w w' := by
  go_enter Tryz.func27, Tryz.ntmps27
  go_wp2_with (go_at_call 56; refine (join_any v l [44] _ h (by omega) (by omega)).mono ?_; rintro e w' ⟨rfl, hb⟩)
  go_ret
  exact ⟨by simp only [toldS, st, ← bcat]; rfl, hb⟩

-- strconv.Itoa of a small number, and num
set_option maxHeartbeats 400000 in
theorem num_small (n : Nat) (hn : n < 100) (w : World) : Calls Tryz.prog 28 #[.int .i64 n] w fun e w' => e = .returned (st (Lib.decDigits n)) ∧ w = w' := by
  go_enter Tryz.func28, Tryz.ntmps28
  go_wp2_with (go_at_call 57; refine (Tryz.strconv_Itoa_small n hn _).mono ?_; rintro e w' ⟨rfl, rfl⟩)
  go_ret
  exact ⟨rfl, rfl⟩
set_option maxHeartbeats 400000 in
theorem num_any (n : Nat) (hn : n < 1000000) (w : World) (hg : Glob w) : Calls Tryz.prog 28 #[.int .i64 n] w fun e w' => e = .returned (st (Lib.decDigits n)) ∧ Below w.heap.size w w' := by
  have hi : Lib.itoa n = Lib.decDigits n := by unfold Lib.itoa; rw [if_neg (by omega)]; simp
  go_enter Tryz.func28, Tryz.ntmps28
  go_wp2_with (go_at_call 57; refine (Tryz.strconv_Itoa n (by omega) (by omega) _ hg.pow).mono ?_; rintro e w' ⟨rfl, k, os, rfl⟩)
  go_ret
  exact ⟨rfl, below_grow _ _ _⟩

/-- slices.Contains at []string. -/
theorem contains_any (v : Value) (l : List Str) (s : Str) (w : World) (h : Strs w v l) (hl : l.length ≤ 1000000000) :
    Calls Tryz.prog 54 #[v, st s] w fun e w' => e = .returned (.bool (hasB l s)) ∧ w = w' := by
  obtain ⟨a, cap, rfl, hcap⟩ := h.split
  cases l with
  | nil => exact (Tryz.slices_Contains_string_empty a cap ⟨s.toArray⟩ w).mono fun e w' ⟨h1, h2⟩ => ⟨h1, h2.symm⟩
  | cons t r =>
    obtain ⟨b, off, rfl, hb, _⟩ := h.get (i := 0) (t := t) rfl
    have hc := h.cells
    refine (Tryz.slices_Contains_string b off (t :: r).length cap ((t :: r).map fun t => (⟨t.toArray⟩ : ByteArray)) ⟨s.toArray⟩ w (by simp) (by simp at hl ⊢; omega) (fun j hj => ?_)).mono fun e w' ⟨h1, h2⟩ => ⟨?_, h2.symm⟩
    · refine hc j _ ?_
      rw [List.getD_eq_getElem?_getD, List.getElem?_eq_getElem hj]; rfl
    · rw [h1]
      congr 2
      rw [Bool.eq_iff_iff, Lib.containsS_iff, hasB_iff, List.take_of_length_le (by simp), List.mem_map]
      exact ⟨fun ⟨x, hx, he⟩ => by
        have : x = s := by simpa using congrArg (fun b : ByteArray => b.data.toList) he
        rw [← this]; exact hx, fun hx => ⟨s, hx, rfl⟩⟩

/-- slices.Sort at []string: of a slice that the call owns. -/
def sortS (l : List Str) : List Str := l.mergeSort fun x y => decide (x ≤ y)
theorem sort_any (base : Nat) (v : Value) (l : List Str) (w : World) (h : OwnsS w base v l) (hl : l.length ≤ 1000000000) :
    Calls Tryz.prog 55 #[v] w fun e w' => e = .returned (.tuple #[]) ∧ OwnsS w' base v (sortS l) ∧ w.grownBy w' v.ownBlock := by
  rcases h.2 with ⟨rfl, h0⟩ | ⟨g, cap, cur, rfl, hbase, hb, h1, h2, h3, h4⟩
  · obtain rfl : l = [] := List.eq_nil_of_length_eq_zero h0
    refine (Tryz.slices_Sort_string_none none 0 w).mono fun e w' ⟨h1, h2⟩ => ⟨h1, ?_, ?_⟩
    · rw [h2]; simpa [sortS] using h
    · rw [h2]; exact ⟨rfl, rfl, rfl, Nat.le_refl _, fun _ _ _ => rfl⟩
  · refine (Tryz.slices_Sort_string g 0 cap l w (holds_of_block hb (by simpa using h4)) (blk_lt hb) (by omega)).mono fun e w' ⟨h5, n, os, h6⟩ => ⟨h5, ?_, ?_⟩
    · rw [h6]
      have := ownsRow_sorted (w := w) (n := n) (os := os) (ts := sortS l) (ss := l) (by simp [sortS]) hbase hb h1 h2 h3
      unfold OwnsS
      rw [show (sortS l).length = l.length by simp [sortS]]
      exact this
    · rw [h6]; exact grownBy_sorted _

/-- strings.Cut at an opening bracket; strings.HasSuffix. -/
theorem cut_any (s sep : Str) (w : World) (hg : Glob w) (hs : s.length < 1000000000) :
    Calls Tryz.prog 100 #[st s, st sep] w fun e w' => e = .returned (.tuple #[st (Lib.cut s sep).1, st (Lib.cut s sep).2.1, .bool (Lib.cut s sep).2.2]) ∧ ∃ n, w' = w.drewN n := by
  obtain ⟨m, hm⟩ := hg.max
  exact Tryz.strings_Cut ⟨s.toArray⟩ ⟨sep.toArray⟩ m w (Nat.lt_trans hs (by decide)) hm
theorem suffix_any (s p : Str) (w : World) (hs : s.length ≤ 1000000000) :
    Calls Tryz.prog 101 #[st s, st p] w fun e w' => e = .returned (.bool (Lib.hasSuffix s p)) ∧ w = w' :=
  (Tryz.strings_HasSuffix ⟨s.toArray⟩ ⟨p.toArray⟩ w (Nat.le_trans hs (by decide))).mono fun e w' ⟨h1, h2⟩ => ⟨h1, h2.symm⟩
end Go.Proofs.YtmiokpcolpcbaaaGreatDoor
