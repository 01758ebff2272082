/- The rules hash, xor of attack. PRINTED by wip/gen/rules.py. -/
import Derived.Test.YtmiokpcolpcbaaaGreatDoorSpec
import Derived.Test.YtmiokpcolpcbaaaGreatDoorFlatAR
namespace Go.Proofs.YtmiokpcolpcbaaaGreatDoor
open Go.RowKit

theorem len_two {l : List Str} (h : l.length = 2) : ∃ x y, l = [x, y] := by
  match l, h with
  | [x, y], _ => exact ⟨x, y, rfl⟩
theorem parts_le (s : Str) : (partsS s).length ≤ s.length + 1 := Nat.le_trans (length_le_sumLen _) (sumLen_parts s)

set_option maxRecDepth 100000 in
set_option maxHeartbeats 4000000 in
theorem khash_att (g : Nat) (ov kv sv : Value) (known : List Str) (args : List Int) (r n : Int) (w : World) (H : Stands w g ov kv sv known args n) :
    Calls Tryz.prog 29 #[.pointer (some ⟨g, 0, none⟩), .agg #[.int .i64 r, sv, .int .i64 n]] w (StepOut (hashO known args) w) := by
  go_enter Tryz.func29, Tryz.ntmps29
  go_wp2_with fail
  have H1 := H.mono (ext_alloc w (.cells #[.int .i64 r, sv, .int .i64 n] 49))
  refine (args_att g ov kv sv known args r n 1 _ H1.hg H1.know H1.strs H1.ints H1.al H1.kl).mono ?_
  rintro e w1 ⟨av, l, b, rfl, o1, b1, post⟩
  have G1 := H1.glob.mono b1
  have B1 : Hid (Below w.heap.size w w1) := (Ext.trans (ext_alloc w (.cells #[.int .i64 r, sv, .int .i64 n] 49)) b1)
  obtain ⟨p1, p2⟩ := ArgsPost.opt (m := 1) post
  clear post b1
  cases b with
  | false =>
    obtain ⟨va, vc, rfl, _⟩ := o1.strs.split
    go_wp2
    refine bodyPost_ret (v := .tuple #[st [], .bool false]) (by simp [results, Tryz.results29, go_sem]) rfl ⟨[], false, rfl, (by repeat (first | exact Below.refl _ _ | exact B1.out | refine Below.trans ?_ (Below.mono B1.out (by first | (simp; done) | (simp; omega) | omega)) | refine Below.setCell ?_ (by first | (simp; done) | (simp; omega) | (have hszq := (B1.out).size; simp at hszq ⊢; omega)) _ | refine Below.alloc ?_ (by first | (simp; done) | (simp; omega) | (have hszq := (B1.out).size; simp at hszq ⊢; omega)) _ | refine below_drewN ?_ _ | refine Below.drew ?_)), by simp [hashO, p1]⟩
  | true =>
    obtain ⟨hl, hp⟩ := p2 rfl
    obtain ⟨t, rfl⟩ : ∃ t, l = [t] := List.length_eq_one_iff.1 hl
    obtain ⟨va, vc, rfl, _⟩ := o1.strs.split
    obtain ⟨b2, off2, rfl, hb2, hc2⟩ := o1.strs.get (i := 0) (t := t) rfl
    have G := H.good t (pickS_mem hp _ (by simp))
    have hs := G.len
    simp only [Nat.add_zero] at hc2
    have hz1 : w.heap.size ≤ w1.heap.size := B1.out.size
    have P1 := Lib.hid p1
    clear hl hp p2 H1 p1
    have hj : (Lib.join [t] [44]).length ≤ 1000000 := by have := join_le [t]; simp [sumLen] at this; omega
    go_wp2_with fail
    refine (told_any sHash _ [t] _ (OwnsS.single _ 0 t (Nat.zero_le _)).strs (by decide) (by simp) hj).mono ?_
    rintro e w2 ⟨rfl, b2⟩
    go_wp2
    refine bodyPost_ret (v := .tuple #[st (toldS sHash [t]), .bool true]) (by simp [results, Tryz.results29, go_sem]) rfl ⟨_, true, rfl, ?_, ?_⟩
    · exact B1.out.trans (Below.trans ((Below.refl _ _).alloc hz1 _) (b2.mono (by simp; omega)))
    · simp [hashO, P1.out]

set_option maxRecDepth 100000 in
set_option maxHeartbeats 4000000 in
theorem kxor_att (g : Nat) (ov kv sv : Value) (known : List Str) (args : List Int) (r n : Int) (w : World) (H : Stands w g ov kv sv known args n) :
    Calls Tryz.prog 30 #[.pointer (some ⟨g, 0, none⟩), .agg #[.int .i64 r, sv, .int .i64 n]] w (StepOut (xorO known args) w) := by
  go_enter Tryz.func30, Tryz.ntmps30
  go_wp2_with fail
  have H1 := H.mono (ext_alloc w (.cells #[.int .i64 r, sv, .int .i64 n] 49))
  refine (args_att g ov kv sv known args r n 2 _ H1.hg H1.know H1.strs H1.ints H1.al H1.kl).mono ?_
  rintro e w1 ⟨av, l, b, rfl, o1, b1, post⟩
  have G1 := H1.glob.mono b1
  have B1 : Hid (Below w.heap.size w w1) := (Ext.trans (ext_alloc w (.cells #[.int .i64 r, sv, .int .i64 n] 49)) b1)
  obtain ⟨p1, p2⟩ := ArgsPost.opt (m := 2) post
  clear post b1
  cases b with
  | false =>
    obtain ⟨va, vc, rfl, _⟩ := o1.strs.split
    go_wp2
    refine bodyPost_ret (v := .tuple #[st [], .bool false]) (by simp [results, Tryz.results30, go_sem]) rfl ⟨[], false, rfl, (by repeat (first | exact Below.refl _ _ | exact B1.out | refine Below.trans ?_ (Below.mono B1.out (by first | (simp; done) | (simp; omega) | omega)) | refine Below.setCell ?_ (by first | (simp; done) | (simp; omega) | (have hszq := (B1.out).size; simp at hszq ⊢; omega)) _ | refine Below.alloc ?_ (by first | (simp; done) | (simp; omega) | (have hszq := (B1.out).size; simp at hszq ⊢; omega)) _ | refine below_drewN ?_ _ | refine Below.drew ?_)), by simp [xorO, p1]⟩
  | true =>
    obtain ⟨hl, hp⟩ := p2 rfl
    obtain ⟨x, y, rfl⟩ : ∃ x y, l = [x, y] := len_two hl
    obtain ⟨va, vc, rfl, _⟩ := o1.strs.split
    obtain ⟨b2, off2, rfl, hb2, hc2⟩ := o1.strs.get (i := 0) (t := x) rfl
    obtain ⟨_, _, e9, _, hc3⟩ := o1.strs.get (i := 1) (t := y) rfl
    cases e9
    have Gx := H.good x (pickS_mem hp _ (by simp))
    have Gy := H.good y (pickS_mem hp _ (by simp))
    have hsx := Gx.len
    have hsy := Gy.len
    simp only [Nat.add_zero] at hc2
    have hz1 : w.heap.size ≤ w1.heap.size := B1.out.size
    have P1 := Lib.hid p1
    clear hl hp p2 H1 p1
    go_wp2_with fail
    refine (flat_att x _ G1 (by omega) Gx.asc).mono ?_
    rintro e w2 ⟨rfl, c2⟩
    have B2 : Hid (Below w.heap.size w w2) := B1.out.trans (c2.mono hz1)
    have hz2 : w1.heap.size ≤ w2.heap.size := c2.size
    have d2 : w2.cell? ⟨b2, off2, none⟩ = some (st x) := (c2.cell (p := ⟨b2, off2, none⟩) hb2).trans hc2
    have d3 : w2.cell? ⟨b2, off2 + 1, none⟩ = some (st y) := (c2.cell (p := ⟨b2, off2 + 1, none⟩) hb2).trans hc3
    have G2 := G1.mono c2
    have hb3 : b2 < w2.heap.size := by omega
    clear hc2 hc3 c2 o1
    by_cases fx : flatB x = true
    · rw [fx]
      go_wp2_with fail
      refine (flat_att y _ G2 (by omega) Gy.asc).mono ?_
      rintro e w3 ⟨rfl, c3⟩
      have B3 : Hid (Below w.heap.size w w3) := B2.out.trans (c3.mono (by omega))
      have hz3 : w2.heap.size ≤ w3.heap.size := c3.size
      have e2 : w3.cell? ⟨b2, off2, none⟩ = some (st x) := (c3.cell (p := ⟨b2, off2, none⟩) hb3).trans d2
      have e3 : w3.cell? ⟨b2, off2 + 1, none⟩ = some (st y) := (c3.cell (p := ⟨b2, off2 + 1, none⟩) hb3).trans d3
      have G3 := G2.mono c3
      clear d2 d3 c3
      by_cases fy : flatB y = true
      · rw [fy]
        have hb4 : b2 < w3.heap.size := by omega
        have hx := xor_join_le x y
        have hpx := parts_le x
        have hpy := parts_le y
        go_wp2_with fail
        have G4 : Glob w3.drew := G3.mono ((Below.refl _ _).drew)
        refine wp_region_early ((0, 0) :: (1, 0) :: (2, 1) :: (3, 0) :: (4, 0) :: (5, 1) :: (6, 2) :: (7, 0) :: (8, 0) :: []) (by kernel_rfl) (by kernel_rfl) (fun _ _ d _ _ h => by cases d <;> exact h) ?_
        have hxE := @ExtN.cell (w3.heap.size)
        all_goals (apply wpE_0; exact rfl; exact rfl; exact (wanted_free rfl); intro K hK; go_big_quiet_op; first | (refine hK _ ?_; clear hK K) | (split <;> (refine hK _ ?_; clear hK K)))
        all_goals (apply wpE_0; exact rfl; exact rfl; exact (wanted_free rfl); intro K hK; go_big_quiet_op; first | (refine hK _ ?_; clear hK K) | (split <;> (refine hK _ ?_; clear hK K)))
        all_goals (apply wpE_1 (w3.heap.size) (by first | exact Nat.le_refl _ | assumption | (simp; done) | (simp; omega) | omega); exact rfl; exact rfl; exact (wanted_free rfl); intro K hK; go_big_quiet_op; first | (refine hK _ ?_; clear hK K) | (split <;> (refine hK _ ?_; clear hK K)))
        all_goals (apply wpE_0; exact rfl; exact rfl; exact (wanted_free rfl); intro K hK; go_big_quiet_op; first | (refine hK _ ?_; clear hK K) | (split <;> (refine hK _ ?_; clear hK K)))
        all_goals (apply wpE_0; exact rfl; exact rfl; exact (wanted_free rfl); intro K hK; go_big_quiet_op; first | (refine hK _ ?_; clear hK K) | (split <;> (refine hK _ ?_; clear hK K)))
        all_goals (apply wpE_1 (w3.heap.size) (by first | exact Nat.le_refl _ | assumption | (simp; done) | (simp; omega) | omega); exact rfl; exact rfl; exact (wanted_free rfl); intro K hK; go_big_quiet_op; first | (refine hK _ ?_; clear hK K) | (split <;> (refine hK _ ?_; clear hK K)))
        all_goals (apply wpE_2; exact rfl; intro K hK; go_simp; first | (refine hK _ _ (by first | exact Ext.refl _ | exact ext_alloc _ _ | exact ext_alloc_drew _ _) ?_; clear hK K) | (refine (xor_att x y _ G4 (by omega) (by omega) Gx.asc Gy.asc (by omega) (by omega) (by omega)).mono ?_; rintro e w4 ⟨rfl, c4⟩; refine hK _ _ c4 ?_; clear hK K))
        all_goals (apply wpE_0; exact rfl; exact rfl; exact (wanted_free rfl); intro K hK; go_big_quiet_op; first | (refine hK _ ?_; clear hK K) | (split <;> (refine hK _ ?_; clear hK K)))
        all_goals (apply wpE_0; exact rfl; exact rfl; exact (wanted_free rfl); intro K hK; go_big_quiet_op; first | (refine hK _ ?_; clear hK K) | (split <;> (refine hK _ ?_; clear hK K)))
        all_goals (refine wpE_nil ?_; clear hxE)
        go_wp2
        refine bodyPost_ret (v := .tuple #[st (xorS x y), .bool true]) (by simp [results, Tryz.results30, go_sem]) rfl ⟨_, true, rfl, ?_, ?_⟩
        · exact B3.out.trans (Ext.trans ((Below.refl _ w3).drew) c4 |>.mono (by omega))
        · simp [xorO, P1.out, fx, fy]
      · have fy' : flatB y = false := by simpa using fy
        rw [fy']
        go_wp2
        refine bodyPost_ret (v := .tuple #[st [], .bool false]) (by simp [results, Tryz.results30, go_sem]) rfl ⟨[], false, rfl, (by repeat (first | exact Below.refl _ _ | exact B3.out | refine Below.trans ?_ (Below.mono B3.out (by first | (simp; done) | (simp; omega) | omega)) | refine Below.setCell ?_ (by first | (simp; done) | (simp; omega) | (have hszq := (B3.out).size; simp at hszq ⊢; omega)) _ | refine Below.alloc ?_ (by first | (simp; done) | (simp; omega) | (have hszq := (B3.out).size; simp at hszq ⊢; omega)) _ | refine below_drewN ?_ _ | refine Below.drew ?_)), by simp [xorO, P1.out, fx, fy']⟩
    · have fx' : flatB x = false := by simpa using fx
      rw [fx']
      go_wp2
      refine bodyPost_ret (v := .tuple #[st [], .bool false]) (by simp [results, Tryz.results30, go_sem]) rfl ⟨[], false, rfl, (by repeat (first | exact Below.refl _ _ | exact B2.out | refine Below.trans ?_ (Below.mono B2.out (by first | (simp; done) | (simp; omega) | omega)) | refine Below.setCell ?_ (by first | (simp; done) | (simp; omega) | (have hszq := (B2.out).size; simp at hszq ⊢; omega)) _ | refine Below.alloc ?_ (by first | (simp; done) | (simp; omega) | (have hszq := (B2.out).size; simp at hszq ⊢; omega)) _ | refine below_drewN ?_ _ | refine Below.drew ?_)), by simp [xorO, P1.out, fx']⟩
end Go.Proofs.YtmiokpcolpcbaaaGreatDoor
