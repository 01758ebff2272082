/- wakes of the statements: the example holds. -/
import Derived.Test.YtmiokpcolpcbaaaGreatDoorDerA
import Derived.Test.YtmiokpcolpcbaaaGreatDoorBOwn
import Derived.Test.YtmiokpcolpcbaaaGreatDoorXorA
import Derived.Test.YtmiokpcolpcbaaaGreatDoorSafeS
import Derived.Lib.SlBytesConst
namespace Go.Proofs.YtmiokpcolpcbaaaGreatDoor
open Go.RowKit

def wkO : AObj := ⟨[115], 1 :: List.replicate 31 0, 1, 2⟩
def wkK : List Str := [toldS sPiece [Lib.decDigits 0, Lib.decDigits 0], toldS sHidden [Lib.decDigits 0]]
theorem wk_derive : deriveS [wkO] [(0, 0)] [⟨3, [0], 0⟩] = .ok wkK := by
  have h1 : rightL [wkO] = true := by decide
  have h2 : ([((0 : Int), (0 : Int))] : List (Int × Int)).all (pieceOK [wkO]) = true := by decide
  have hp : pieceS (toldS sPiece [Lib.decDigits 0, Lib.decDigits 0]) = (0, 0) := by
    unfold pieceS
    rw [rd_piece]
    simp only [List.getD_cons_zero, List.getD_cons_succ]
    rw [numS_dec (n := 0) (b := 20) (by decide), numS_dec (n := 0) (b := 255) (by decide)]
    rfl
  have hh : hd (toldS sPiece [Lib.decDigits 0, Lib.decDigits 0]) = sPiece := by unfold hd; rw [rd_piece]
  have ho : objectO [wkO] [toldS sPiece [Lib.decDigits 0, Lib.decDigits 0]] [0] = 0 := by
    unfold objectO
    have : pickS [toldS sPiece [Lib.decDigits 0, Lib.decDigits 0]] [0] = some [toldS sPiece [Lib.decDigits 0, Lib.decDigits 0]] := by simp [pickS]
    rw [this]
    unfold enoughS
    simp only [List.map_cons, List.map_nil, List.headD_cons, hp, List.all_cons, List.all_nil, hh, beq_self_eq_true, Bool.and_self]
    decide
  have hj : stepO [wkO] [toldS sPiece [Lib.decDigits 0, Lib.decDigits 0]] ⟨3, [0], 0⟩ = some (toldS sHidden [Lib.decDigits 0]) := by
    unfold stepO joinO
    rw [ho]
    simp [joinT]
  have hl : (toldS sHidden [Lib.decDigits 0]).length ≤ 100 := by
    have h1 := told_len sHidden [Lib.decDigits 0]
    have h2 := dec_len 3 0 (by omega)
    simp only [sumLen, List.map_cons, List.map_nil, List.sum_cons, List.sum_nil] at h1
    have e : sHidden.length = 6 := rfl
    omega
  unfold deriveS
  rw [if_neg (by simp [h1]), if_neg (by simp [h2]), if_neg (by simp)]
  show runS _ _ [pieceT (0, 0)] = _
  have hpt : pieceT (0, 0) = toldS sPiece [Lib.decDigits 0, Lib.decDigits 0] := rfl
  rw [hpt]
  simp only [runS, hj]
  rw [if_neg (by omega)]
  rfl
theorem xorS_self (s : Str) : xorS s s = toldS sOwn [[48]] := by
  have h : xorL s s = [] := by
    unfold xorL onlyIn
    rw [List.append_eq_nil_iff]
    have : ((partsS s).filter fun x => !hasB (partsS s) x) = [] := by
      rw [List.filter_eq_nil_iff]
      intro a ha
      simp [hasB_iff.2 ha]
    exact ⟨this, this⟩
  unfold xorS
  rw [h]
  simp [sortS, finS]

theorem objs_one {w : World} {b : Nat} {o : AObj} (h : ObjAt w b 0 o) (hb : b < w.heap.size) : Objs w (.slice (some ⟨b, 0, none⟩) 1 1) [o] :=
  ⟨by simp, _, _, rfl, fun i x hx => ⟨b, 0, rfl, hb, by
    cases i with
    | zero => simp at hx; subst hx; simpa using h
    | succ i => simp at hx⟩⟩
theorem pieces_one {w : World} {b : Nat} {p : Int × Int} (h : PieceAt w b 0 p) (hb : b < w.heap.size) : Pieces w (.slice (some ⟨b, 0, none⟩) 1 1) [p] :=
  ⟨by simp, _, _, rfl, fun i x hx => ⟨b, 0, rfl, hb, by
    cases i with
    | zero => simp at hx; subst hx; simpa using h
    | succ i => simp at hx⟩⟩
theorem steps_one {w : World} {b : Nat} {p : AStep} (h : StepAt w b 0 p) (hb : b < w.heap.size) : Steps w (.slice (some ⟨b, 0, none⟩) 1 1) [p] :=
  ⟨by simp, _, _, rfl, fun i x hx => ⟨b, 0, rfl, hb, by
    cases i with
    | zero => simp at hx; subst hx; simpa using h
    | succ i => simp at hx⟩⟩
theorem row_one {w : World} {b : Nat} {u : Value} (h : w.cell? ⟨b, 0, none⟩ = some u) (hb : b < w.heap.size) : Row 1 w (.slice (some ⟨b, 0, none⟩) 1 1) 1 [u] :=
  ⟨rfl, _, _, rfl, Nat.le_refl _, fun i x hx => ⟨b, 0, rfl, hb, by
    cases i with
    | zero => simp at hx; subst hx; simpa using h
    | succ i => simp at hx⟩⟩
theorem objAt_of_row {w : World} {b : Nat} {o : AObj} {sv : Value} {T : TypeId} {fr : Nat × Nat} (h : w.heap[b]? = some (.cells (objRow sv o).toArray T fr)) (hs : Bytes w sv o.secret) (hl : o.key.length = 32) (hk : i64ok o.k) (hn : i64ok o.n) : ObjAt w b 0 o := by
  have hc : ∀ i, w.cell? ⟨b, i, none⟩ = (objRow sv o)[i]? := fun i => by rw [blk_cell h, List.getElem?_toArray]
  refine ⟨⟨sv, by rw [hc]; rfl, hs⟩, hl, fun j x hj => ?_, ?_, ?_, hk, hn⟩
  · have hj' := (List.getElem?_eq_some_iff.1 hj).1
    rw [hc, show 0 + 1 + j = j + 1 by omega]
    unfold objRow
    rw [List.getElem?_cons_succ, List.getElem?_append_left (by simpa using hj'), List.getElem?_map, hj]
    rfl
  · rw [Nat.zero_add, hc, objRow_k hl]
  · rw [Nat.zero_add, hc, objRow_n hl]

def wkH : Str := [104, 97, 115, 104, 40, 111, 119, 110, 40, 49, 41, 41]
theorem dec_zero : Lib.decDigits 0 = [48] := by rw [dec_small (by decide)]; rfl
theorem wkH_eq : wkH = toldS sHash [toldS sOwn [Lib.decDigits 1]] := by rw [show Lib.decDigits 1 = [49] by rw [dec_small (by decide)]; rfl]; rfl
theorem wk7_eq : toldS sOwn [Lib.decDigits 7] = [111, 119, 110, 40, 55, 41] := by rw [show Lib.decDigits 7 = [55] by rw [dec_small (by decide)]; rfl]; rfl
theorem wkHidden_eq : toldS sHidden [Lib.decDigits 0] = [104, 105, 100, 100, 101, 110, 40, 48, 41] := by rw [dec_zero]; rfl
theorem wkZero_eq : toldS sOwn [[48]] = [111, 119, 110, 40, 48, 41] := rfl

/-- The world of the example. -/
structure WkW (w W : World) : Prop where
  bel : Below w.heap.size w W
  big : w.heap.size + 5 ≤ W.heap.size
  objs : Objs W (.slice (some ⟨w.heap.size + 1, 0, none⟩) 1 1) [wkO]
  pieces : Pieces W (.slice (some ⟨w.heap.size + 1 + 1, 0, none⟩) 1 1) [(0, 0)]
  steps : Steps W (.slice (some ⟨w.heap.size + 1 + 1 + 1 + 1, 0, none⟩) 1 1) [⟨3, [0], 0⟩]
set_option maxRecDepth 100000 in
theorem wk_world (w : World) : WkW w (((((w.alloc (.cells #[.int .u8 115] 5 (1, 2))).alloc (.cells #[.slice (some ⟨w.heap.size, 0, none⟩) 1 1, .int .u8 1, .int .u8 0, .int .u8 0, .int .u8 0, .int .u8 0, .int .u8 0, .int .u8 0, .int .u8 0, .int .u8 0, .int .u8 0, .int .u8 0, .int .u8 0, .int .u8 0, .int .u8 0, .int .u8 0, .int .u8 0, .int .u8 0, .int .u8 0, .int .u8 0, .int .u8 0, .int .u8 0, .int .u8 0, .int .u8 0, .int .u8 0, .int .u8 0, .int .u8 0, .int .u8 0, .int .u8 0, .int .u8 0, .int .u8 0, .int .u8 0, .int .u8 0, .int .i64 1, .int .i64 2] 39)).alloc (.cells #[.int .i64 0, .int .i64 0] 46)).alloc (.cells #[.int .i64 0] 3)).alloc (.cells #[.int .i64 3, .slice (some ⟨w.heap.size + 1 + 1 + 1, 0, none⟩) 1 1, .int .i64 0] 49)) := by
  refine ⟨by exact (by repeat (first | exact Below.refl _ _ | refine Below.setCell ?_ (by first | (simp; done) | (simp; omega)) _ | refine Below.alloc ?_ (by first | (simp; done) | (simp; omega)) _ | refine below_drewN ?_ _ | refine Below.drew ?_)), by simp, ?_, ?_, ?_⟩
  · refine objs_one (objAt_of_row (sv := .slice (some ⟨w.heap.size, 0, none⟩) 1 1) (T := 39) (fr := (0, 0)) ?_ (row_one ?_ (by simp only [World.alloc, Array.size_push]; omega)) rfl (by unfold wkO i64ok; simp) (by unfold wkO i64ok; simp)) (by simp only [World.alloc, Array.size_push]; omega)
    · simp only [World.alloc, Array.getElem?_push, Array.size_push]
      rw [if_neg (by omega), if_neg (by omega), if_neg (by omega), if_pos trivial]
      rfl
    · simp only [World.cell?, World.alloc, Array.getElem?_push, Array.size_push]
      rw [if_neg (by omega), if_neg (by omega), if_neg (by omega), if_neg (by omega), if_pos trivial]
      rfl
  · refine pieces_one ⟨?_, ?_, by unfold i64ok; simp, by unfold i64ok; simp⟩ (by simp only [World.alloc, Array.size_push]; omega)
    all_goals (simp only [World.cell?, World.alloc, Array.getElem?_push, Array.size_push]; simp; done)
  · refine steps_one ⟨?_, ⟨_, ?_, by intro x hx; simp at hx; subst hx; unfold i64ok; simp, by simp, row_one (b := w.heap.size + 1 + 1 + 1) ?_ (by simp only [World.alloc, Array.size_push]; omega)⟩, ?_, by unfold i64ok; simp, by unfold i64ok; simp⟩ (by simp only [World.alloc, Array.size_push]; omega)
    all_goals (simp only [World.cell?, World.alloc, Array.getElem?_push, Array.size_push]; simp; done)

set_option maxRecDepth 100000 in
set_option maxHeartbeats 2000000 in
theorem wakes_law (w : World) (hg : Glob w) : Calls Tryz.prog 7 #[] w fun e w' => e = .returned (.bool true) ∧ Below w.heap.size w w' := by
  have kc := fun (w : World) (C : Array Value) (n c : Nat) => Lib.run_convert_bytes_const (P := Tryz.prog) w 35 5 C n c Tryz.underlying35 Tryz.underlying5
  have HW := Lib.hid (wk_world w)
  go_enter Tryz.func7, Tryz.ntmps7
  go_wp2_with fail
  obtain ⟨W, hW⟩ : ∃ W : World, W = ((((w.alloc (.cells #[.int .u8 115] 5 (1, 2))).alloc (.cells #[.slice (some ⟨w.heap.size, 0, none⟩) 1 1, .int .u8 1, .int .u8 0, .int .u8 0, .int .u8 0, .int .u8 0, .int .u8 0, .int .u8 0, .int .u8 0, .int .u8 0, .int .u8 0, .int .u8 0, .int .u8 0, .int .u8 0, .int .u8 0, .int .u8 0, .int .u8 0, .int .u8 0, .int .u8 0, .int .u8 0, .int .u8 0, .int .u8 0, .int .u8 0, .int .u8 0, .int .u8 0, .int .u8 0, .int .u8 0, .int .u8 0, .int .u8 0, .int .u8 0, .int .u8 0, .int .u8 0, .int .u8 0, .int .i64 1, .int .i64 2] 39)).alloc (.cells #[.int .i64 0, .int .i64 0] 46)).alloc (.cells #[.int .i64 0] 3)).alloc (.cells #[.int .i64 3, .slice (some ⟨w.heap.size + 1 + 1 + 1, 0, none⟩) 1 1, .int .i64 0] 49) := ⟨_, rfl⟩
  rw [← hW] at HW
  rw [← hW]
  clear hW kc
  obtain ⟨w1, w2, w3, w4, w5⟩ := HW.out
  clear HW
  refine (derive_att _ _ _ [wkO] [(0, 0)] [⟨3, [0], 0⟩] _ w3 w4 w5 (hg.mono w1) (by simp) (by simp) (by simp)).mono ?_
  rw [wk_derive]
  rintro e W1 ⟨b1, av, rfl, o1⟩
  have B1 : Below w.heap.size w W1 := w1.trans (b1.mono (by omega))
  have hO1 := w3.mono b1
  have hg1 := hg.mono B1
  have hz1 := b1.size
  have o2 : OwnsS W1 W.heap.size av [toldS sPiece [Lib.decDigits 0, Lib.decDigits 0], [104, 105, 100, 100, 101, 110, 40, 48, 41]] := by rw [← wkHidden_eq]; exact o1
  clear o1
  obtain ⟨va, vc, rfl, _⟩ := o2.strs.split
  obtain ⟨b, off, rfl, hb, hc⟩ := o2.strs.get (i := 1) (t := [104, 105, 100, 100, 101, 110, 40, 48, 41]) rfl
  clear w1 w3 w4 w5 b1 o2
  have hB := Bytes_own _ [wkO] 7 (by omega) W1 hO1 rfl hg1
  rw [wk7_eq] at hB
  have HB := Lib.hid hB
  clear hB hO1
  simp only [List.length_cons, List.length_nil, Nat.zero_add]
  go_wp2_with fail
  refine HB.out.mono ?_
  rintro e W2 ⟨av, rfl, o3, b3⟩
  clear HB
  have hg2 := hg1.mono b3
  have B2 : Below w.heap.size w W2 := B1.trans (b3.mono (by omega))
  have hz2 := b3.size
  have hc2 := (b3.cell (p := ⟨b, off + 1, none⟩) hb).trans hc
  have ob := o3.bytes
  obtain ⟨ua, uc, rfl, _⟩ := ob.split
  obtain ⟨b5, off5, rfl, hb5, hc5⟩ := ob.get (i := 0) (t := UInt8.ofNat 7) rfl
  have hxo := xor_att wkH wkH W2 hg2 (by decide) (by decide) (by unfold Asc; decide) (by unfold Asc; decide) (by decide) (by decide) (by
    have := xor_join_le wkH wkH
    have e : wkH.length = 12 := rfl
    omega)
  rw [xorS_self] at hxo
  have HX := Lib.hid hxo
  clear hxo b3 hc ob o3
  simp only [List.length_replicate, Nat.add_zero] at *
  go_wp2_with fail
  refine HX.out.mono ?_
  rintro e W3 ⟨rfl, b4⟩
  clear HX
  have hc3 := (b4.cell (p := ⟨b, off + 1, none⟩) (show b < W2.heap.size by omega)).trans hc2
  have hc6 := (b4.cell (p := ⟨b5, off5, none⟩) hb5).trans hc5
  have B3 : Below w.heap.size w W3 := B2.trans (b4.mono (by omega))
  rw [show toldS sOwn [[48]] = [111, 119, 110, 40, 48, 41] from rfl]
  clear hc2 hc5 b4
  go_wp2
  go_ret
  exact ⟨rfl, B3⟩
end Go.Proofs.YtmiokpcolpcbaaaGreatDoor
