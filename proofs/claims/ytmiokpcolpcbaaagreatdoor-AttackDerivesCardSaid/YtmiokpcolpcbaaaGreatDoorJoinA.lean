/- The rules join, more of attack. -/
import Derived.Test.YtmiokpcolpcbaaaGreatDoorObjA
import Derived.Test.YtmiokpcolpcbaaaGreatDoorOwnA
namespace Go.Proofs.YtmiokpcolpcbaaaGreatDoor
open Go.RowKit

theorem asc_append {s t : Str} (hs : Asc s) (ht : Asc t) : Asc (s ++ t) := fun c hc => (List.mem_append.1 hc).elim (hs c) (ht c)
theorem asc_joinTail : ∀ {l : List Str}, (∀ s ∈ l, Asc s) → Asc (Lib.joinTail [44] l)
  | [], _ => by intro c hc; simp [Lib.joinTail] at hc
  | a :: l, h => by
    have h1 := h a (by simp)
    have h2 := asc_joinTail (l := l) fun s hs => h s (List.mem_cons_of_mem _ hs)
    have e : Lib.joinTail [44] (a :: l) = [44] ++ a ++ Lib.joinTail [44] l := by simp [Lib.joinTail]
    rw [e]
    exact asc_append (asc_append (by intro c hc; simp at hc; subst hc; decide) h1) h2
theorem asc_join {l : List Str} (h : ∀ s ∈ l, Asc s) : Asc (Lib.join l [44]) := by
  cases l with
  | nil => intro c hc; simp [Lib.join] at hc
  | cons a r => rw [Lib.join_cons]; exact asc_append (h a (by simp)) (asc_joinTail fun s hs => h s (List.mem_cons_of_mem _ hs))
theorem asc_told {head : Str} {l : List Str} (hh : Asc head) (h : ∀ s ∈ l, Asc s) : Asc (toldS head l) := by
  unfold toldS
  exact asc_append (asc_append (asc_append hh (by intro c hc; simp at hc; subst hc; decide)) (asc_join h)) (by intro c hc; simp at hc; subst hc; decide)
theorem asc_dec (n : Nat) : Asc (Lib.decDigits n) := fun c hc => by have := dec_digit n c hc; omega
theorem asc_key : Asc sKey := by unfold Asc sKey; decide
theorem asc_hash : Asc sHash := by unfold Asc sHash; decide
theorem asc_hidden : Asc sHidden := by unfold Asc sHidden; decide
theorem asc_xor : Asc sXor := by unfold Asc sXor; decide
theorem asc_own : Asc sOwn := by unfold Asc sOwn; decide
theorem asc_hide : Asc sHide := by unfold Asc sHide; decide
theorem asc_inside : Asc sInside := by unfold Asc sInside; decide
theorem asc_piece : Asc sPiece := by unfold Asc sPiece; decide
theorem told_len (head : Str) (l : List Str) : (toldS head l).length ≤ head.length + 2 + sumLen l := by
  have := join_le l
  simp [toldS]; omega

theorem objectO_lt {l : List AObj} {known : List Str} {args : List Int} (hL : l.length ≤ 20) (hgl : ∀ s ∈ known, Good l.length s) : objectO l known args = -1 ∨ ∃ o : Nat, objectO l known args = o ∧ o < l.length := by
  unfold objectO
  cases hp : pickS known args with
  | none => exact .inl rfl
  | some ts =>
    simp only
    unfold enoughS
    by_cases h0 : ts = []
    · rw [if_pos h0]; exact .inl rfl
    · rw [if_neg h0]
      by_cases h1 : ts.all (fun s => hd s == sPiece) = true
      · rw [if_pos h1]
        split
        · exact .inl rfl
        · split
          · exact .inl rfl
          · obtain ⟨x, tr, rfl⟩ : ∃ x tr, ts = x :: tr := List.exists_cons_of_ne_nil h0
            obtain ⟨o, i, ho, hi, e2⟩ := (hgl x (pickS_mem hp x (by simp))).piece (by have := List.all_eq_true.1 h1 x (by simp); simpa using this)
            refine .inr ⟨o, ?_, ho⟩
            show (pieceS x).1 = _
            unfold pieceS
            rw [e2]
            exact numS_dec (by omega)
      · rw [if_neg h1]; exact .inl rfl

def nOf (l : List AObj) (o : Int) : Int := (l[o.toNat]?.map (·.n)).getD 0
def joinT (o : Nat) (n : Int) : Str := if n = 0 then toldS sHidden [Lib.decDigits o] else xorS (toldS sKey [Lib.decDigits o]) (toldS sHash [toldS sHidden [Lib.decDigits o]])
def joinO (l : List AObj) (known : List Str) (args : List Int) (n : Int) : Option Str :=
  if objectO l known args < 0 ∨ n < 0 ∨ 1 < n then none else some (joinT (objectO l known args).toNat n)
def moreO (l : List AObj) (known : List Str) (args : List Int) (n : Int) : Option Str :=
  if objectO l known args < 0 ∨ n < 0 ∨ nOf l (objectO l known args) ≤ n then none else some (toldS sPiece [Lib.decDigits (objectO l known args).toNat, Lib.decDigits n.toNat])

set_option maxRecDepth 100000 in
set_option maxHeartbeats 4000000 in
theorem kjoin_att (g : Nat) (ov kv sv : Value) (known : List Str) (args : List Int) (r n : Int) (l : List AObj) (w : World) (H : Stands w g ov kv sv known args n) (hO : Objs w ov l) (hL : l.length ≤ 20) (hgl : ∀ s ∈ known, Good l.length s) :
    Calls Tryz.prog 31 #[.pointer (some ⟨g, 0, none⟩), .agg #[.int .i64 r, sv, .int .i64 n]] w (StepOut (joinO l known args n) w) := by
  have HN := H.nok
  obtain ⟨hn1, hn2⟩ := HN
  go_enter Tryz.func31, Tryz.ntmps31
  go_wp2_with fail
  have E0 := ext_alloc w (.cells #[.int .i64 r, sv, .int .i64 n] 49)
  have H1 := H.mono E0
  refine (kobject_att g ov kv sv known args r n l _ H1 (hO.mono E0) hL hgl).mono ?_
  rintro e w1 ⟨rfl, b1⟩
  have G1 := H1.glob.mono b1
  have k0 : w1.cell? ⟨w.heap.size, 2, none⟩ = some (.int .i64 n) := (b1.cell (p := ⟨w.heap.size, 2, none⟩) (by simp)).trans (by simp)
  have B1 : Hid (Below w.heap.size w w1) := Ext.trans E0 b1
  have hz1 : w.heap.size + 1 ≤ w1.heap.size := by have := b1.size; simp at this; omega
  have HJ : Hid (joinO l known args n = if objectO l known args < 0 ∨ n < 0 ∨ 1 < n then none else some (joinT (objectO l known args).toNat n)) := rfl
  have HR := objectO_lt (args := args) hL hgl
  clear b1 H1 E0 hO H
  generalize objectO l known args = ob at *
  by_cases hneg : ob < 0 ∨ n < 0 ∨ 1 < n
  · have HJ2 : Hid (joinO l known args n = none) := by have := HJ.out; rw [if_pos hneg] at this; exact this
    clear HJ
    go_wp2_with fail
    all_goals refine bodyPost_ret (v := .tuple #[st [], .bool false]) (by simp [results, Tryz.results31, go_sem]) rfl ⟨[], false, rfl, (by repeat (first | exact Below.refl _ _ | exact B1.out | refine Below.trans ?_ (Below.mono B1.out (by first | (simp; done) | (simp; omega) | omega)) | refine Below.setCell ?_ (by first | (simp; done) | (simp; omega) | (have hszq := (B1.out).size; simp at hszq ⊢; omega)) _ | refine Below.alloc ?_ (by first | (simp; done) | (simp; omega) | (have hszq := (B1.out).size; simp at hszq ⊢; omega)) _ | refine below_drewN ?_ _ | refine Below.drew ?_)), by simp [HJ2.out]⟩
  · have HJ2 : Hid (joinO l known args n = some (joinT ob.toNat n)) := by have := HJ.out; rw [if_neg hneg] at this; exact this
    clear HJ
    obtain ⟨o, rfl, ho⟩ : ∃ o : Nat, ob = o ∧ o < l.length := by
      rcases HR with h | h
      · exact absurd h (by omega)
      · exact h
    have ho2 : o < 20 := by omega
    simp only [Int.toNat_natCast] at HJ2
    have hdl : (Lib.decDigits o).length ≤ 4 := dec_len 3 o (by omega)
    have hsl : sumLen [Lib.decDigits o] ≤ 5 := by simp [sumLen]; omega
    have hlh : (toldS sHidden [Lib.decDigits o]).length ≤ 20 := by have := told_len sHidden [Lib.decDigits o]; simp [sHidden] at this; simp [sHidden]; omega
    by_cases hn0 : n = 0
    · subst hn0
      go_wp2_with fail
      refine (num_small o (by omega) _).mono ?_
      rintro e w2 ⟨rfl, rfl⟩
      go_wp2_with fail
      refine (told_one sHidden (Lib.decDigits o) _ _ (by simp) (by decide) (by omega)).mono ?_
      rintro e w3 ⟨rfl, b3⟩
      have k1 : w3.cell? ⟨w.heap.size, 2, none⟩ = some (.int .i64 0) := (b3.cell (p := ⟨w.heap.size, 2, none⟩) (by simp; omega)).trans ((World.cell?_alloc_lt w1 _ _ (show w.heap.size < w1.heap.size by omega)).trans k0)
      go_wp2
      refine bodyPost_ret (v := .tuple #[st (toldS sHidden [Lib.decDigits o]), .bool true]) (by simp [results, Tryz.results31, go_sem]) rfl ⟨_, true, rfl, (by repeat (first | exact Below.refl _ _ | exact b3 | refine Below.trans ?_ (Below.mono b3 (by first | (simp; done) | (simp; omega) | omega)) | exact B1.out | refine Below.trans ?_ (Below.mono B1.out (by first | (simp; done) | (simp; omega) | omega)) | refine Below.setCell ?_ (by first | (simp; done) | (simp; omega) | (have hszq := (b3).size; simp at hszq ⊢; omega) | (have hszq := (B1.out).size; simp at hszq ⊢; omega)) _ | refine Below.alloc ?_ (by first | (simp; done) | (simp; omega) | (have hszq := (b3).size; simp at hszq ⊢; omega) | (have hszq := (B1.out).size; simp at hszq ⊢; omega)) _ | refine below_drewN ?_ _ | refine Below.drew ?_)), by simp [HJ2.out, joinT]⟩
    · have hn1 : n = 1 := by omega
      subst hn1
      go_wp2_with fail
      refine (num_small o (by omega) _).mono ?_
      rintro e w2 ⟨rfl, rfl⟩
      go_wp2_with fail
      refine (told_one sHidden (Lib.decDigits o) _ _ (by simp) (by decide) (by omega)).mono ?_
      rintro e w3 ⟨rfl, b3⟩
      have k1 : w3.cell? ⟨w.heap.size, 2, none⟩ = some (.int .i64 1) := (b3.cell (p := ⟨w.heap.size, 2, none⟩) (by simp; omega)).trans ((World.cell?_alloc_lt w1 _ _ (show w.heap.size < w1.heap.size by omega)).trans k0)
      have B3 : Hid (Below w.heap.size w w3) := Lib.hid (by exact (by repeat (first | exact Below.refl _ _ | exact b3 | refine Below.trans ?_ (Below.mono b3 (by first | (simp; done) | (simp; omega) | omega)) | exact B1.out | refine Below.trans ?_ (Below.mono B1.out (by first | (simp; done) | (simp; omega) | omega)) | refine Below.setCell ?_ (by first | (simp; done) | (simp; omega) | (have hszq := (b3).size; simp at hszq ⊢; omega) | (have hszq := (B1.out).size; simp at hszq ⊢; omega)) _ | refine Below.alloc ?_ (by first | (simp; done) | (simp; omega) | (have hszq := (b3).size; simp at hszq ⊢; omega) | (have hszq := (B1.out).size; simp at hszq ⊢; omega)) _ | refine below_drewN ?_ _ | refine Below.drew ?_)))
      have G3 : Glob w3 := G1.mono (by exact (by repeat (first | exact Below.refl _ _ | exact b3 | refine Below.trans ?_ (Below.mono b3 (by first | (simp; done) | (simp; omega) | omega)) | refine Below.setCell ?_ (by first | (simp; done) | (simp; omega) | (have hszq := (b3).size; simp at hszq ⊢; omega)) _ | refine Below.alloc ?_ (by first | (simp; done) | (simp; omega) | (have hszq := (b3).size; simp at hszq ⊢; omega)) _ | refine below_drewN ?_ _ | refine Below.drew ?_)))
      have hz3 : w1.heap.size ≤ w3.heap.size := by have := b3.size; simp at this; omega
      generalize hT : toldS sHidden [Lib.decDigits o] = T at *
      have HT := Lib.hid hT
      have aT : Asc T := by rw [← hT]; exact asc_told asc_hidden (by simp; exact asc_dec o)
      clear b3 G1 hT
      go_wp2_with fail
      refine (num_small o (by omega) _).mono ?_
      rintro e w4 ⟨rfl, rfl⟩
      go_wp2_with fail
      refine (told_one sKey (Lib.decDigits o) _ _ (by simp) (by decide) (by omega)).mono ?_
      rintro e w5 ⟨rfl, b5⟩
      have B5 : Hid (Below w.heap.size w w5) := Lib.hid (by exact (by repeat (first | exact Below.refl _ _ | exact b5 | refine Below.trans ?_ (Below.mono b5 (by first | (simp; done) | (simp; omega) | omega)) | exact B3.out | refine Below.trans ?_ (Below.mono B3.out (by first | (simp; done) | (simp; omega) | omega)) | refine Below.setCell ?_ (by first | (simp; done) | (simp; omega) | (have hszq := (b5).size; simp at hszq ⊢; omega) | (have hszq := (B3.out).size; simp at hszq ⊢; omega)) _ | refine Below.alloc ?_ (by first | (simp; done) | (simp; omega) | (have hszq := (b5).size; simp at hszq ⊢; omega) | (have hszq := (B3.out).size; simp at hszq ⊢; omega)) _ | refine below_drewN ?_ _ | refine Below.drew ?_)))
      have G5 : Glob w5 := G3.mono (by exact (by repeat (first | exact Below.refl _ _ | exact b5 | refine Below.trans ?_ (Below.mono b5 (by first | (simp; done) | (simp; omega) | omega)) | refine Below.setCell ?_ (by first | (simp; done) | (simp; omega) | (have hszq := (b5).size; simp at hszq ⊢; omega)) _ | refine Below.alloc ?_ (by first | (simp; done) | (simp; omega) | (have hszq := (b5).size; simp at hszq ⊢; omega)) _ | refine below_drewN ?_ _ | refine Below.drew ?_)))
      have hz5 : w3.heap.size ≤ w5.heap.size := by have := b5.size; simp at this; omega
      clear b5 G3
      go_wp2_with fail
      refine (told_one sHash T _ _ (by simp) (by decide) (by omega)).mono ?_
      rintro e w6 ⟨rfl, b6⟩
      have B6 : Hid (Below w.heap.size w w6) := Lib.hid (by exact (by repeat (first | exact Below.refl _ _ | exact b6 | refine Below.trans ?_ (Below.mono b6 (by first | (simp; done) | (simp; omega) | omega)) | exact B5.out | refine Below.trans ?_ (Below.mono B5.out (by first | (simp; done) | (simp; omega) | omega)) | refine Below.setCell ?_ (by first | (simp; done) | (simp; omega) | (have hszq := (b6).size; simp at hszq ⊢; omega) | (have hszq := (B5.out).size; simp at hszq ⊢; omega)) _ | refine Below.alloc ?_ (by first | (simp; done) | (simp; omega) | (have hszq := (b6).size; simp at hszq ⊢; omega) | (have hszq := (B5.out).size; simp at hszq ⊢; omega)) _ | refine below_drewN ?_ _ | refine Below.drew ?_)))
      have G6 : Glob w6 := G5.mono (by exact (by repeat (first | exact Below.refl _ _ | exact b6 | refine Below.trans ?_ (Below.mono b6 (by first | (simp; done) | (simp; omega) | omega)) | refine Below.setCell ?_ (by first | (simp; done) | (simp; omega) | (have hszq := (b6).size; simp at hszq ⊢; omega)) _ | refine Below.alloc ?_ (by first | (simp; done) | (simp; omega) | (have hszq := (b6).size; simp at hszq ⊢; omega)) _ | refine below_drewN ?_ _ | refine Below.drew ?_)))
      have hz6 : w5.heap.size ≤ w6.heap.size := by have := b6.size; simp at this; omega
      clear b6 G5
      have l1 : (toldS sKey [Lib.decDigits o]).length ≤ 30 := by have := told_len sKey [Lib.decDigits o]; simp [sKey] at this; simp [sKey]; omega
      have l2 : (toldS sHash [T]).length ≤ 60 := by have := told_len sHash [T]; simp [sHash, sumLen] at this; simp [sHash]; omega
      have a1 : Asc (toldS sKey [Lib.decDigits o]) := asc_told asc_key (by simp; exact asc_dec o)
      have a2 : Asc (toldS sHash [T]) := asc_told asc_hash (by simp; exact aT)
      have j1 := xor_join_le (toldS sKey [Lib.decDigits o]) (toldS sHash [T])
      have j2 := parts_le (toldS sKey [Lib.decDigits o])
      have j3 := parts_le (toldS sHash [T])
      go_wp2_with fail
      refine (xor_att _ _ _ G6 (by omega) (by omega) a1 a2 (by omega) (by omega) (by omega)).mono ?_
      rintro e w7 ⟨rfl, b7⟩
      go_wp2
      refine bodyPost_ret (v := .tuple #[st (xorS (toldS sKey [Lib.decDigits o]) (toldS sHash [T])), .bool true]) (by simp [results, Tryz.results31, go_sem]) rfl ⟨_, true, rfl, (by repeat (first | exact Below.refl _ _ | exact b7 | refine Below.trans ?_ (Below.mono b7 (by first | (simp; done) | (simp; omega) | omega)) | exact B6.out | refine Below.trans ?_ (Below.mono B6.out (by first | (simp; done) | (simp; omega) | omega)) | refine Below.setCell ?_ (by first | (simp; done) | (simp; omega) | (have hszq := (b7).size; simp at hszq ⊢; omega) | (have hszq := (B6.out).size; simp at hszq ⊢; omega)) _ | refine Below.alloc ?_ (by first | (simp; done) | (simp; omega) | (have hszq := (b7).size; simp at hszq ⊢; omega) | (have hszq := (B6.out).size; simp at hszq ⊢; omega)) _ | refine below_drewN ?_ _ | refine Below.drew ?_)), by simp [HJ2.out, joinT, HT.out]⟩
end Go.Proofs.YtmiokpcolpcbaaaGreatDoor
