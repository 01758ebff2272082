/- bytes, Bytes of attack, at 'own(n)'. -/
import Derived.Test.YtmiokpcolpcbaaaGreatDoorNumA
import Derived.Test.YtmiokpcolpcbaaaGreatDoorRepeatA
import Derived.Test.YtmiokpcolpcbaaaGreatDoorTerms
import Derived.Test.YtmiokpcolpcbaaaGreatDoorRightA
namespace Go.Proofs.YtmiokpcolpcbaaaGreatDoor
open Go.RowKit

theorem repeat_one (b n : Nat) (hn : n ≤ 255) (w : World) (hc : w.cell? ⟨b, 0, none⟩ = some (.int .u8 n)) :
    Calls Tryz.prog 67 #[.slice (some ⟨b, 0, none⟩) 1 1, .int .i64 32] w fun e w' => ∃ av, e = .returned av ∧ OwnsB w' w.heap.size av (List.replicate 32 (UInt8.ofNat n)) ∧ Below w.heap.size w w' := by
  have e : (UInt8.ofNat n).toNat = n := by rw [UInt8.toNat_ofNat']; omega
  refine repeat_any _ (UInt8.ofNat n) w ⟨rfl, _, _, rfl, Nat.le_refl _, fun i x hx => ⟨b, 0, rfl, World.block_lt_of_cell? w _ hc, ?_⟩⟩
  cases i with
  | zero => simp only [List.map_cons, List.getElem?_cons_zero, Option.some.injEq] at hx; subst hx; rw [e]; exact hc
  | succ i => simp at hx

set_option maxRecDepth 100000 in
set_option maxHeartbeats 2000000 in
theorem bytes_own (lv : Value) (n : Nat) (hn : n ≤ 255) (w : World) (hg : Glob w) :
    Calls Tryz.prog 39 #[lv, st (toldS sOwn [Lib.decDigits n])] w fun e w' => ∃ av, e = .returned (.tuple #[av, .bool true]) ∧ OwnsB w' w.heap.size av (List.replicate 32 (UInt8.ofNat n)) ∧ Below w.heap.size w w' := by
  have hl := told_len sOwn [Lib.decDigits n]
  have hd := dec_len 3 n (by omega)
  have hlen : (toldS sOwn [Lib.decDigits n]).length ≤ 1000 := by
    simp only [sumLen, List.map_cons, List.map_nil, List.sum_cons, List.sum_nil] at hl
    have e : sOwn.length = 3 := rfl
    omega
  have hasc := (Term.own (L := 1) n hn).asc
  have hrd := Lib.hid (rd_own n)
  generalize toldS sOwn [Lib.decDigits n] = s at *
  clear hl hd
  go_enter Tryz.func39, Tryz.ntmps39
  go_wp2_with fail
  refine (read_att s _ hg (by omega) hasc).mono ?_
  rintro e w2 ⟨tv, rfl, o2, b2⟩
  rw [hrd.out] at o2 ⊢
  unfold sOwn
  obtain ⟨ta, tc, rfl, _⟩ := o2.strs.split
  obtain ⟨b4, off4, rfl, hb6, f0⟩ := o2.strs.get (i := 0) (t := Lib.decDigits n) rfl
  simp only [Nat.add_zero] at f0
  have hz2 := b2.size
  clear hrd o2
  go_wp2_with fail
  refine (number_dec n (by omega) 256 (by unfold i64ok; omega) _ (hg.mono (by exact (by repeat (first | exact Below.refl _ _ | exact b2 | refine Below.trans ?_ (Below.mono b2 (by first | (simp; done) | (simp; omega) | omega)) | refine Below.setCell ?_ (by first | (simp; done) | (simp; omega) | (have hszq := (b2).size; simp at hszq ⊢; omega)) _ | refine Below.alloc ?_ (by first | (simp; done) | (simp; omega) | (have hszq := (b2).size; simp at hszq ⊢; omega)) _ | refine below_drewN ?_ _ | refine Below.drew ?_))))).mono ?_
  rintro e w3 ⟨rfl, b3⟩
  rw [show decide ((n : Int) < 256) = true by simp; omega]
  have Bz : Below w2.heap.size w2 w3 := (by repeat (first | exact Below.refl _ _ | exact b3 | refine Below.trans ?_ (Below.mono b3 (by first | (simp; done) | (simp; omega) | omega)) | refine Below.setCell ?_ (by first | (simp; done) | (simp; omega) | (have hszq := (b3).size; simp at hszq ⊢; omega)) _ | refine Below.alloc ?_ (by first | (simp; done) | (simp; omega) | (have hszq := (b3).size; simp at hszq ⊢; omega)) _ | refine below_drewN ?_ _ | refine Below.drew ?_))
  have hz3 : w2.heap.size < w3.heap.size := by have := b3.size; simp at this; omega
  have k0 : w3.cell? ⟨w2.heap.size, 1, none⟩ = some (.slice (some ⟨b4, off4, none⟩) 1 tc) := (b3.cell (p := ⟨w2.heap.size, 1, none⟩) (by simp)).trans (by simp)
  have hwn : (n : Int) ≤ 255 := by omega
  have B3 : Below w.heap.size w w3 := b2.trans (Bz.mono hz2)
  clear b3 Bz f0 b2
  go_wp2_with fail
  refine wp_region_early ((0, 0) :: (1, 0) :: (4, 0) :: (2, 2) :: (3, 2) :: (5, 0) :: (6, 0) :: (7, 1) :: (8, 0) :: (9, 0) :: (10, 0) :: (11, 0) :: (12, 0) :: []) (by kernel_rfl) (by kernel_rfl) (fun _ _ d _ _ h => by cases d <;> exact h) ?_
  have hxE := @ExtN.cell (w3.heap.size)
  all_goals (apply wpE_0; exact rfl; exact rfl; exact (wanted_free rfl); intro K hK; go_big_quiet_op; first | (refine hK _ ?_; clear hK K) | (split <;> (refine hK _ ?_; clear hK K)))
  all_goals (apply wpE_0; exact rfl; exact rfl; exact (wanted_free rfl); intro K hK; go_big_quiet_op; first | (refine hK _ ?_; clear hK K) | (split <;> (refine hK _ ?_; clear hK K)))
  all_goals (apply wpE_0; exact rfl; exact rfl; exact (wanted_free rfl); intro K hK; go_big_quiet_op; first | (refine hK _ ?_; clear hK K) | (split <;> (refine hK _ ?_; clear hK K)))
  all_goals (apply wpE_2; exact rfl; intro K hK; go_simp; first | (refine hK _ _ (by first | exact Ext.refl _ | exact ext_alloc _ _ | exact ext_alloc_drew _ _) ?_; clear hK K))
  all_goals (apply wpE_2; exact rfl; intro K hK; go_simp; first | (refine hK _ _ (by first | exact Ext.refl _ | exact ext_alloc _ _ | exact ext_alloc_drew _ _) ?_; clear hK K) | (refine (repeat_one _ n hn _ (by simp)).mono ?_; rintro e w5 ⟨av, rfl, o5, c5⟩; have Bz : Below w3.heap.size w3 w5 := (by exact (by repeat (first | exact Below.refl _ _ | exact c5 | refine Below.trans ?_ (Below.mono c5 (by first | (simp; done) | (simp; omega) | omega)) | refine Below.setCell ?_ (by first | (simp; done) | (simp; omega) | (have hszq := (c5).size; simp at hszq ⊢; omega)) _ | refine Below.alloc ?_ (by first | (simp; done) | (simp; omega) | (have hszq := (c5).size; simp at hszq ⊢; omega)) _ | refine below_drewN ?_ _ | refine Below.drew ?_))); have k5 := (Bz.cell (p := ⟨w2.heap.size, 1, none⟩) hz3).trans k0; have hz5 : w3.heap.size ≤ w5.heap.size := Bz.size; refine hK _ _ c5 ?_; clear hK K))
  all_goals (apply wpE_0; exact rfl; exact rfl; exact (wanted_free rfl); intro K hK; go_big_quiet_op; first | (refine hK _ ?_; clear hK K) | (split <;> (refine hK _ ?_; clear hK K)))
  all_goals (first | (apply wpE_no; exact rfl; exact (wanted_no rfl rfl rfl (by with_reducible (first | exact Bool.not_true | exact Bool.not_false))); (try simp only [Act.put, List.setIfInBounds_toArray, List.set_cons_zero, List.set_cons_succ])) | (apply wpE_0; exact rfl; exact rfl; exact (wanted_yes rfl rfl rfl (by with_reducible rfl)); intro K hK; go_big_quiet_op; first | (refine hK _ ?_; clear hK K) | (split <;> (refine hK _ ?_; clear hK K))) | (apply wpE_split; exact rfl; exact rfl; exact rfl; exact rfl; all_goals (intro hB; simp only [hB]; (try simp only [Bool.or_eq_true, Bool.and_eq_true, Bool.or_eq_false_iff, Bool.and_eq_false_iff, Bool.not_eq_true', Bool.not_eq_false', decide_eq_true_eq, decide_eq_false_iff_not, bne_iff_ne, beq_iff_eq] at hB); first | (exfalso; omega) | (apply wpE_no; exact rfl; exact (wanted_no rfl rfl rfl (by with_reducible (first | exact Bool.not_true | exact Bool.not_false))); (try simp only [Act.put, List.setIfInBounds_toArray, List.set_cons_zero, List.set_cons_succ])) | (apply wpE_0; exact rfl; exact rfl; exact (wanted_yes rfl rfl rfl (by with_reducible rfl)); intro K hK; go_big_quiet_op; first | (refine hK _ ?_; clear hK K) | (split <;> (refine hK _ ?_; clear hK K))))))
  all_goals (first | (apply wpE_no; exact rfl; exact (wanted_no rfl rfl rfl (by with_reducible (first | exact Bool.not_true | exact Bool.not_false))); (try simp only [Act.put, List.setIfInBounds_toArray, List.set_cons_zero, List.set_cons_succ])) | (apply wpE_1 (w3.heap.size) (by first | exact Nat.le_refl _ | assumption | (simp; done) | (simp; omega) | omega); exact rfl; exact rfl; exact (wanted_yes rfl rfl rfl (by with_reducible rfl)); intro K hK; go_big_quiet_op; first | (refine hK _ ?_; clear hK K) | (split <;> (refine hK _ ?_; clear hK K))) | (apply wpE_split; exact rfl; exact rfl; exact rfl; exact rfl; all_goals (intro hB; simp only [hB]; (try simp only [Bool.or_eq_true, Bool.and_eq_true, Bool.or_eq_false_iff, Bool.and_eq_false_iff, Bool.not_eq_true', Bool.not_eq_false', decide_eq_true_eq, decide_eq_false_iff_not, bne_iff_ne, beq_iff_eq] at hB); first | (exfalso; omega) | (apply wpE_no; exact rfl; exact (wanted_no rfl rfl rfl (by with_reducible (first | exact Bool.not_true | exact Bool.not_false))); (try simp only [Act.put, List.setIfInBounds_toArray, List.set_cons_zero, List.set_cons_succ])) | (apply wpE_1 (w3.heap.size) (by first | exact Nat.le_refl _ | assumption | (simp; done) | (simp; omega) | omega); exact rfl; exact rfl; exact (wanted_yes rfl rfl rfl (by with_reducible rfl)); intro K hK; go_big_quiet_op; first | (refine hK _ ?_; clear hK K) | (split <;> (refine hK _ ?_; clear hK K))))))
  all_goals (first | (apply wpE_no; exact rfl; exact (wanted_no rfl rfl rfl (by with_reducible (first | exact Bool.not_true | exact Bool.not_false))); (try simp only [Act.put, List.setIfInBounds_toArray, List.set_cons_zero, List.set_cons_succ])) | (apply wpE_0; exact rfl; exact rfl; exact (wanted_yes rfl rfl rfl (by with_reducible rfl)); intro K hK; go_big_quiet_op; first | (refine hK _ ?_; clear hK K) | (split <;> (refine hK _ ?_; clear hK K))) | (apply wpE_split; exact rfl; exact rfl; exact rfl; exact rfl; all_goals (intro hB; simp only [hB]; (try simp only [Bool.or_eq_true, Bool.and_eq_true, Bool.or_eq_false_iff, Bool.and_eq_false_iff, Bool.not_eq_true', Bool.not_eq_false', decide_eq_true_eq, decide_eq_false_iff_not, bne_iff_ne, beq_iff_eq] at hB); first | (exfalso; omega) | (apply wpE_no; exact rfl; exact (wanted_no rfl rfl rfl (by with_reducible (first | exact Bool.not_true | exact Bool.not_false))); (try simp only [Act.put, List.setIfInBounds_toArray, List.set_cons_zero, List.set_cons_succ])) | (apply wpE_0; exact rfl; exact rfl; exact (wanted_yes rfl rfl rfl (by with_reducible rfl)); intro K hK; go_big_quiet_op; first | (refine hK _ ?_; clear hK K) | (split <;> (refine hK _ ?_; clear hK K))))))
  all_goals (first | (apply wpE_no; exact rfl; exact (wanted_no rfl rfl rfl (by with_reducible (first | exact Bool.not_true | exact Bool.not_false))); (try simp only [Act.put, List.setIfInBounds_toArray, List.set_cons_zero, List.set_cons_succ])) | (apply wpE_0; exact rfl; exact rfl; exact (wanted_yes rfl rfl rfl (by with_reducible rfl)); intro K hK; go_big_quiet_op; first | (refine hK _ ?_; clear hK K) | (split <;> (refine hK _ ?_; clear hK K))) | (apply wpE_split; exact rfl; exact rfl; exact rfl; exact rfl; all_goals (intro hB; simp only [hB]; (try simp only [Bool.or_eq_true, Bool.and_eq_true, Bool.or_eq_false_iff, Bool.and_eq_false_iff, Bool.not_eq_true', Bool.not_eq_false', decide_eq_true_eq, decide_eq_false_iff_not, bne_iff_ne, beq_iff_eq] at hB); first | (exfalso; omega) | (apply wpE_no; exact rfl; exact (wanted_no rfl rfl rfl (by with_reducible (first | exact Bool.not_true | exact Bool.not_false))); (try simp only [Act.put, List.setIfInBounds_toArray, List.set_cons_zero, List.set_cons_succ])) | (apply wpE_0; exact rfl; exact rfl; exact (wanted_yes rfl rfl rfl (by with_reducible rfl)); intro K hK; go_big_quiet_op; first | (refine hK _ ?_; clear hK K) | (split <;> (refine hK _ ?_; clear hK K))))))
  all_goals (apply wpE_0; exact rfl; exact rfl; exact (wanted_free rfl); intro K hK; go_big_quiet_op; first | (refine hK _ ?_; clear hK K) | (split <;> (refine hK _ ?_; clear hK K)))
  all_goals (apply wpE_0; exact rfl; exact rfl; exact (wanted_free rfl); intro K hK; go_big_quiet_op; first | (refine hK _ ?_; clear hK K) | (split <;> (refine hK _ ?_; clear hK K)))
  all_goals (apply wpE_0; exact rfl; exact rfl; exact (wanted_free rfl); intro K hK; go_big_quiet_op; first | (refine hK _ ?_; clear hK K) | (split <;> (refine hK _ ?_; clear hK K)))
  all_goals (refine wpE_nil ?_; clear hxE)
  go_wp2_with fail
  refine bodyPost_ret (v := .tuple #[av, .bool true]) (by simp [results, Tryz.results39, go_sem]) rfl ⟨av, rfl, o5.le ?_, B3.trans (Below.mono Bz (by omega))⟩
  simp; omega

set_option maxRecDepth 100000 in
set_option maxHeartbeats 2000000 in
theorem Bytes_own (lv : Value) (l : List AObj) (n : Nat) (hn : n ≤ 255) (w : World) (hO : Objs w lv l) (hr : rightL l = true) (hg : Glob w) :
    Calls Tryz.prog 17 #[lv, st (toldS sOwn [Lib.decDigits n])] w fun e w' => ∃ av, e = .returned (.tuple #[av, .int .i64 0]) ∧ OwnsB w' w.heap.size av (List.replicate 32 (UInt8.ofNat n)) ∧ Below w.heap.size w w' := by
  have hl := told_len sOwn [Lib.decDigits n]
  have hd := dec_len 3 n (by omega)
  have hlen : (toldS sOwn [Lib.decDigits n]).length ≤ 1000 := by
    simp only [sumLen, List.map_cons, List.map_nil, List.sum_cons, List.sum_nil] at hl
    have e : sOwn.length = 3 := rfl
    omega
  have HB := Lib.hid (fun (w : World) (hg : Glob w) => bytes_own lv n hn w hg)
  generalize toldS sOwn [Lib.decDigits n] = s at *
  clear hl hd
  go_enter Tryz.func17, Tryz.ntmps17
  go_wp2_with fail
  refine (right_att lv l _ hO).mono ?_
  rintro e w1 ⟨rfl, b1⟩
  rw [hr]
  have hg1 := hg.mono b1
  have hz1 := b1.size
  clear hO hr
  go_wp2_with fail
  refine (HB.out _ hg1).mono ?_
  rintro e w2 ⟨av, rfl, o2, b2⟩
  have hz2 := b2.size
  have B2 : Below w.heap.size w w2 := b1.trans (b2.mono hz1)
  obtain ⟨va, vc, rfl, _⟩ := o2.split
  clear HB b1 b2
  go_wp2_with fail
  refine (cloneb_any _ _ _ o2.bytes (by simp)).mono ?_
  rintro e w3 ⟨av3, rfl, o3, b3⟩
  go_wp2_with fail
  refine bodyPost_ret (v := .tuple #[av3, .int .i64 0]) (by simp [results, Tryz.results17, go_sem]) rfl ⟨av3, rfl, o3.le (by omega), B2.trans (b3.mono (by omega))⟩
end Go.Proofs.YtmiokpcolpcbaaaGreatDoor
