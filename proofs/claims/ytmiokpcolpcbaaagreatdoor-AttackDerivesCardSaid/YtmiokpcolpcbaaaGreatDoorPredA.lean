/- Pieces in a slice that the call owns; slices.ContainsFunc at them. -/
import Derived.Test.YtmiokpcolpcbaaaGreatDoorSpec
import Derived.Test.YtmiokpcolpcbaaaGreatDoorNums
namespace Go.Proofs.YtmiokpcolpcbaaaGreatDoor
open Go.RowKit

def pieceCells (l : List (Int × Int)) : List Value := l.flatMap fun p => [Value.int .i64 p.1, Value.int .i64 p.2]
theorem pieceCells_at : ∀ (l : List (Int × Int)) (i : Nat) (p : Int × Int), l[i]? = some p → (pieceCells l)[i * 2]? = some (.int .i64 p.1) ∧ (pieceCells l)[i * 2 + 1]? = some (.int .i64 p.2)
  | [], i, p, h => by simp at h
  | q :: l, 0, p, h => by simp at h; subst h; simp [pieceCells]
  | q :: l, i + 1, p, h => by
    have h' : l[i]? = some p := by simpa using h
    have := pieceCells_at l i p h'
    have e : pieceCells (q :: l) = .int .i64 q.1 :: .int .i64 q.2 :: pieceCells l := rfl
    rw [e, show (i + 1) * 2 = i * 2 + 1 + 1 by omega]
    simpa using this
/-- A slice of pieces that the call owns. -/
def OwnsP (w : World) (base : Nat) (v : Value) (l : List (Int × Int)) : Prop := w.ownsRow base 46 2 v l.length (pieceCells l)
theorem OwnsP.nil (w : World) (base : Nat) : OwnsP w base (.slice none 0 0) [] := World.ownsRow_nil w base _ 2
theorem OwnsP.pieces {w : World} {base : Nat} {v : Value} {l : List (Int × Int)} (h : OwnsP w base v l) (hok : ∀ p ∈ l, i64ok p.1 ∧ i64ok p.2) (hl : l.length ≤ 9223372036854775807) : Pieces w v l := by
  refine ⟨hl, ?_⟩
  obtain ⟨h0, a, cap, h1, hcap, h2⟩ := Row.of_owns h
  refine ⟨a, cap, h1, fun i p hp => ?_⟩
  obtain ⟨c1, c2⟩ := pieceCells_at l i p hp
  obtain ⟨b, off, h3, h4, h5⟩ := h2 _ _ c1
  obtain ⟨b', off', h3', _, h5'⟩ := h2 _ _ c2
  rw [h3] at h3'
  cases h3'
  exact ⟨b, off, h3, h4, h5, by rw [Nat.add_assoc]; exact h5', (hok p (List.mem_of_getElem? hp)).1, (hok p (List.mem_of_getElem? hp)).2⟩
theorem OwnsP.mono {w w' : World} {base : Nat} {v : Value} {l : List (Int × Int)} (h : OwnsP w base v l) (hb : Below w.heap.size w w') : OwnsP w' base v l := by
  refine World.ownsRow.kept (w := w) (row := none) h ⟨hb.os, hb.tape, hb.output, hb.size, fun k hk _ => hb.block k hk⟩ ?_
  cases hv : v.ownBlock <;> simp
theorem OwnsP.own_ge {w : World} {base : Nat} {v : Value} {l : List (Int × Int)} (h : OwnsP w base v l) : ∀ k, v.ownBlock = some k → base ≤ k := fun k hk => (World.ownsRow.lt h k hk).1
theorem infoPiece : (Tryz.prog.info? 46).map (fun i => (i.zero, i.size, i.bytes)) = some (some (.agg #[.int .i64 0, .int .i64 0]), 2, 16) := by kernel_rfl
theorem wpl_app_piece {ops : Array Oper} {rest : List Oper} {o : Oper} {a : Act} {w : World} {Q : Exit → Act → World → Prop} (hgd : o.guard = none) (s x : Operand)
    (ho : o.op = .call { callee := .builtin .append, args := #[s, x], argTypes := #[23, 23] }) (base : Nat) (v : Value) (l : List (Int × Int)) (hs : a.eval s = v) (hown : OwnsP w base v l)
    (b : Nat) (t : Int × Int) (hx : a.eval x = .slice (some ⟨b, 0, none⟩) 1 1) (hc : w.cell? ⟨b, 0, none⟩ = some (.int .i64 t.1)) (hc2 : w.cell? ⟨b, 1, none⟩ = some (.int .i64 t.2)) (hl : l.length ≤ 1000000000) (hbase : base ≤ w.heap.size)
    (h : ∀ v' w', OwnsP w' base v' (l ++ [t]) → w.grownBy w' v.ownBlock → (∃ a' c', v' = .slice (some a') (l.length + 1) c') → wpList Tryz.prog ops Q rest (a.put o.dst v') w') : wpList Tryz.prog ops Q (o :: rest) a w :=
  wpList_plain hgd fun _ hK => by
    obtain ⟨i0, hi, hz0, hz1, hz2⟩ := info_parts infoPiece
    refine wp_append_own w s x 23 ho base 46 i0 _ 2 16 Tryz.underlying23 hi hz0 hz1 hz2 rfl (by decide) v l.length (pieceCells l) hs hown ⟨b, 0, none⟩ 1 1 [.int .i64 t.1, .int .i64 t.2] hx rfl
      (by
        intro j u hu
        match j with
        | 0 => simp at hu; subst hu; simpa [Addr.add] using hc
        | 1 => simp at hu; subst hu; simpa [Addr.add] using hc2
        | j + 2 => simp at hu) (by intro u hu; simp at hu; rcases hu with rfl | rfl <;> rfl) (by unfold maxLen; omega) (by omega) hbase ?_
    intro v' w' h1 h2 h3
    refine hK _ _ (h v' w' (by simpa [OwnsP, pieceCells] using h1) h2 ?_)
    rcases h1.2 with ⟨_, h⟩ | ⟨g, cap, cur, hv, _⟩
    · omega
    · exact ⟨_, _, hv⟩

set_option maxRecDepth 100000 in
set_option maxHeartbeats 1000000 in
theorem pred_att (p : Int × Int) (c : Nat) (o : Int) (w : World) (hc : w.cell? ⟨c, 0, none⟩ = some (.int .i64 o)) :
    Calls Tryz.prog 99 #[.agg #[.int .i64 p.1, .int .i64 p.2], .pointer (some ⟨c, 0, none⟩)] w fun e w' => e = .returned (.bool (p.1 != o)) ∧ Below w.heap.size w w' := by
  have hb := World.block_lt_of_cell? w _ hc
  go_enter Tryz.func99, Tryz.ntmps99
  go_wp2
  go_ret
  exact ⟨rfl, (by repeat (first | exact Below.refl _ _ | refine Below.setCell ?_ (by first | (simp; done) | (simp; omega)) _ | refine Below.alloc ?_ (by first | (simp; done) | (simp; omega)) _ | refine below_drewN ?_ _ | refine Below.drew ?_))⟩

set_option maxRecDepth 100000 in
set_option maxHeartbeats 1000000 in
theorem indexf_att (v : Value) (l : List (Int × Int)) (c : Nat) (o : Int) (w : World) (h : Pieces w v l) (hc : w.cell? ⟨c, 0, none⟩ = some (.int .i64 o)) :
    Calls Tryz.prog 138 #[v, .func (.func 99) #[] #[.pointer (some ⟨c, 0, none⟩)]] w fun e w' =>
      (∃ i : Int, e = .returned (.int .i64 i) ∧ (0 ≤ i ↔ l.any (fun p => p.1 != o) = true)) ∧ Below w.heap.size w w' := by
  obtain ⟨a, cap, rfl, _⟩ := h.2
  have hm := h.1
  have hcb := World.block_lt_of_cell? w _ hc
  go_enter Tryz.func138, Tryz.ntmps138
  go_wp2
  go_loopw [8] (fun i wr => ∃ k : Nat, k ≤ l.length ∧ i = .int .i64 k ∧ (l.take k).any (fun p => p.1 != o) = false ∧ Below w.heap.size w wr) (fun i _ => l.length - (intOf i).toNat)
  case atStart => exact ⟨0, Nat.zero_le _, rfl, rfl, Below.refl _ _⟩
  case round =>
    obtain ⟨k, hk, rfl, hn, hw⟩ := hrel
    have HN := Lib.hid hn; clear hn
    by_cases hlt : k < l.length
    · have hkk : l[k]? = some l[k] := by simp [hlt]
      obtain ⟨_, a', cap', e, hO⟩ := h.mono hw
      cases e
      obtain ⟨b, off, rfl, hb, c1, c2, c3, c4⟩ := hO k l[k] hkk
      clear hO
      generalize l[k] = p at *
      have HK := Lib.hid hkk; clear hkk
      go_wp2_with fail
      refine (pred_att p c o _ ((hw.cell (p := ⟨c, 0, none⟩) hcb).trans hc)).mono ?_
      rintro e w2 ⟨rfl, b2⟩
      have B2 := hw.trans (b2.mono hw.size)
      cases hp : (p.1 != o) with
      | true =>
        have hany : l.any (fun p => p.1 != o) = true := List.any_eq_true.2 ⟨p, List.mem_of_getElem? HK.out, hp⟩
        go_wp2
        go_ret
        exact ⟨⟨k, rfl, by simp [hany]⟩, B2⟩
      | false =>
        have HN2 := Lib.hid (show (l.take (k + 1)).any (fun p => p.1 != o) = false by rw [List.take_add_one, HK.out, List.any_append, HN.out]; simpa using hp)
        go_wp2
        go_roundw
        case rel => exact ⟨k + 1, by omega, by go_num, HN2.out, B2⟩
        case measure => simp [intOf]; omega
    · have hke : k = l.length := by omega
      subst hke
      have hn := HN.out
      rw [List.take_length] at hn
      go_wp2
      go_ret
      exact ⟨⟨-1, rfl, by rw [hn]; simp⟩, hw⟩

set_option maxRecDepth 100000 in
set_option maxHeartbeats 1000000 in
theorem containsf_att (v : Value) (l : List (Int × Int)) (c : Nat) (o : Int) (w : World) (h : Pieces w v l) (hc : w.cell? ⟨c, 0, none⟩ = some (.int .i64 o)) :
    Calls Tryz.prog 98 #[v, .func (.func 99) #[] #[.pointer (some ⟨c, 0, none⟩)]] w fun e w' =>
      e = .returned (.bool (l.any (fun p => p.1 != o))) ∧ Below w.heap.size w w' := by
  go_enter Tryz.func98, Tryz.ntmps98
  go_wp2_with fail
  refine (indexf_att v l c o w h hc).mono ?_
  rintro e w2 ⟨⟨i, rfl, hi⟩, b2⟩
  have hr : decide (0 ≤ i) = l.any (fun p => p.1 != o) := by rw [Bool.eq_iff_iff, decide_eq_true_eq]; exact hi
  go_wp2
  go_ret
  exact ⟨by rw [← hr]; rfl, b2⟩
end Go.Proofs.YtmiokpcolpcbaaaGreatDoor
