/- The rule own of attack. -/
import Derived.Test.YtmiokpcolpcbaaaGreatDoorHashA
namespace Go.Proofs.YtmiokpcolpcbaaaGreatDoor
open Go.RowKit

theorem dec_len : ∀ (k n : Nat), n < 10 ^ k → (Lib.decDigits n).length ≤ k + 1
  | 0, n, h => by
    have : n = 0 := by simpa using h
    subst this
    unfold Lib.decDigits
    simp
  | k + 1, n, h => by
    unfold Lib.decDigits
    by_cases h1 : n < 10
    · rw [dif_pos h1]; simp
    · rw [dif_neg h1]
      have := dec_len k (n / 10) (by rw [Nat.pow_succ] at h; omega)
      simp; omega

set_option maxRecDepth 100000 in
set_option maxHeartbeats 4000000 in
theorem kown_att (g : Nat) (ov kv sv : Value) (known : List Str) (args : List Int) (r n : Int) (w : World) (H : Stands w g ov kv sv known args n) :
    Calls Tryz.prog 35 #[.pointer (some ⟨g, 0, none⟩), .agg #[.int .i64 r, sv, .int .i64 n]] w (StepOut (ownO args n) w) := by
  obtain ⟨sa, sc, rfl, _⟩ := H.ints.split
  have hal := H.al
  obtain ⟨hn1, hn2⟩ := H.nok
  have HG := H.glob
  by_cases hh : args = [] ∧ 0 ≤ n ∧ n ≤ 255
  · have HO : Hid (ownO args n = some (toldS sOwn [Lib.decDigits n.toNat])) := Lib.hid (by rw [ownO, if_pos hh])
    obtain ⟨rfl, h0, h1⟩ := hh
    obtain ⟨m, rfl⟩ : ∃ m : Nat, n = m := ⟨n.toNat, by omega⟩
    simp only [Int.toNat_natCast] at HO
    have hdl := dec_len 3 m (by omega)
    go_enter Tryz.func35, Tryz.ntmps35
    go_wp2_with fail
    refine (num_any m (by omega) _ (HG.mono (ext_alloc _ _))).mono ?_
    rintro e w2 ⟨rfl, c2⟩
    have B2 : Hid (Below w.heap.size w w2) := Ext.trans (ext_alloc w _) c2
    have hz2 : w.heap.size ≤ w2.heap.size := B2.out.size
    go_wp2_with fail
    refine (told_one sOwn (Lib.decDigits m) _ _ (by simp) (by decide) (by omega)).mono ?_
    rintro e w3 ⟨rfl, c3⟩
    go_wp2
    refine bodyPost_ret (v := .tuple #[st (toldS sOwn [Lib.decDigits m]), .bool true]) (by simp [results, Tryz.results35, go_sem]) rfl ⟨_, true, rfl, (by repeat (first | exact Below.refl _ _ | exact c3 | refine Below.trans ?_ (Below.mono c3 (by first | (simp; done) | (simp; omega) | omega)) | exact B2.out | refine Below.trans ?_ (Below.mono B2.out (by first | (simp; done) | (simp; omega) | omega)) | refine Below.setCell ?_ (by first | (simp; done) | (simp; omega) | (have hszq := (c3).size; simp at hszq ⊢; omega) | (have hszq := (B2.out).size; simp at hszq ⊢; omega)) _ | refine Below.alloc ?_ (by first | (simp; done) | (simp; omega) | (have hszq := (c3).size; simp at hszq ⊢; omega) | (have hszq := (B2.out).size; simp at hszq ⊢; omega)) _ | refine below_drewN ?_ _ | refine Below.drew ?_)), by simp [HO.out]⟩
  · have HO : Hid (ownO args n = none) := Lib.hid (by rw [ownO, if_neg hh])
    have hh2 : (0 : Int) < args.length ∨ args.length = 0 ∧ n < 0 ∨ args.length = 0 ∧ 0 ≤ n ∧ 255 < n := by
      by_cases h0 : args = []
      · subst h0; simp at hh; simp; omega
      · have := List.length_pos_iff.2 h0; omega
    clear hh
    rcases hh2 with h | ⟨h, h1⟩ | ⟨h, h0, h1⟩
    · have hne : args ≠ [] := by rintro rfl; simp at h
      go_enter Tryz.func35, Tryz.ntmps35
      go_wp2_with fail
      refine bodyPost_ret (v := .tuple #[st [], .bool false]) (by simp [results, Tryz.results35, go_sem]) rfl ⟨[], false, rfl, (by repeat (first | exact Below.refl _ _ | refine Below.setCell ?_ (by first | (simp; done) | (simp; omega)) _ | refine Below.alloc ?_ (by first | (simp; done) | (simp; omega)) _ | refine below_drewN ?_ _ | refine Below.drew ?_)), HO.out.symm⟩
    all_goals
      obtain rfl : args = [] := List.eq_nil_of_length_eq_zero h
      go_enter Tryz.func35, Tryz.ntmps35
      go_wp2_with fail
      refine bodyPost_ret (v := .tuple #[st [], .bool false]) (by simp [results, Tryz.results35, go_sem]) rfl ⟨[], false, rfl, (by repeat (first | exact Below.refl _ _ | refine Below.setCell ?_ (by first | (simp; done) | (simp; omega)) _ | refine Below.alloc ?_ (by first | (simp; done) | (simp; omega)) _ | refine below_drewN ?_ _ | refine Below.drew ?_)), HO.out.symm⟩
end Go.Proofs.YtmiokpcolpcbaaaGreatDoor
