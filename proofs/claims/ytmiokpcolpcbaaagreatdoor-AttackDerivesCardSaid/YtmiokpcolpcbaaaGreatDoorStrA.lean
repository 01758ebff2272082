/- has, Same, Read of the reference: what they come to. -/
import Derived.Test.YtmiokpcolpcbaaaGreatDoorBase
import Derived.Test.YtmiokpcolpcbaaaGreatDoorPure
namespace Go.Proofs.YtmiokpcolpcbaaaGreatDoor
open Go.RowKit

set_option maxHeartbeats 400000 in
theorem has_ref (v : Value) (l : List Str) (s : Str) (w : World) (h : Strs w v l) (hm : l.length ≤ 1000000000) :
    Calls Tryz.prog 104 #[v, st s] w fun e w' => e = .returned (.bool (hasB l s)) ∧ w = w' := by
  obtain ⟨a, cap, rfl, _⟩ := h.split
  go_enter Tryz.func104, Tryz.ntmps104
  go_wp2
  go_loop [5] (fun i => ∃ k : Nat, k ≤ l.length ∧ i = .int .i64 k ∧ hasB (l.take k) s = false) (fun i => l.length - (intOf i).toNat)
  case atStart => exact ⟨0, Nat.zero_le _, rfl, rfl⟩
  case round =>
    obtain ⟨k, hk, rfl, hn⟩ := hrel
    have HN := Lib.hid hn; clear hn
    by_cases hlt : k < l.length
    · have hkk : l[k]? = some l[k] := by simp [hlt]
      obtain ⟨b, off, rfl, hb, hc⟩ := h.get hkk
      generalize l[k] = t at *
      have HK := Lib.hid hkk; clear hkk
      go_wp2
      · have hr := hasB_of HK.out (by assumption)
        go_ret
        exact ⟨by rw [hr]; rfl, rfl⟩
      · go_round
        case rel => exact ⟨k + 1, by omega, by go_num, hasB_take_succ HK.out HN.out (by assumption)⟩
        case measure => simp [intOf]; omega
    · go_wp2
      go_ret
      have : k = l.length := by omega
      subst this
      have h1 := HN.out
      rw [List.take_length] at h1
      exact ⟨by rw [h1]; rfl, rfl⟩

set_option maxHeartbeats 400000 in
theorem same_ref (v u : Value) (l m : List Str) (w : World) (h : Strs w v l) (g : Strs w u m) (hm : l.length ≤ 1000000000) (hm' : m.length ≤ 1000000000) :
    Calls Tryz.prog 13 #[v, u] w fun e w' => e = .returned (.bool (sameB l m)) ∧ ∃ n, w' = w.drewN n := by
  obtain ⟨a, cap, rfl, _⟩ := h.split
  obtain ⟨a2, cap2, rfl, _⟩ := g.split
  by_cases hl : l.length = m.length
  · have t1 : ((l.length : Int) != (m.length : Int)) = false := by simp [hl]
    have HL := Lib.hid hl; clear hl
    go_enter Tryz.func13, Tryz.ntmps13
    go_wp2
    go_loopw [5] (fun i wr => ∃ k : Nat, k ≤ l.length ∧ i = .int .i64 k ∧ sameB (l.take k) (m.take k) = true ∧ ∃ n, wr = w.drewN n) (fun i _ => l.length - (intOf i).toNat)
    case atStart => exact ⟨0, Nat.zero_le _, rfl, rfl, 0, rfl⟩
    case round =>
      obtain ⟨k, hk, rfl, hn, nw, rfl⟩ := hrel
      have HN := Lib.hid hn; clear hn
      by_cases hlt : k < l.length
      · have hlt2 : k < m.length := by rw [← HL.out]; exact hlt
        have hkk : l[k]? = some l[k] := by simp [hlt]
        have hjj : m[k]? = some m[k] := by simp [hlt2]
        obtain ⟨b, off, rfl, hb, hc⟩ := h.get hkk
        obtain ⟨b2, off2, rfl, hb2, hc2⟩ := g.get hjj
        generalize l[k] = t at *
        generalize m[k] = t2 at *
        have HK := Lib.hid hkk; clear hkk
        have HJ := Lib.hid hjj; clear hjj
        go_wp2_with fail
        refine wp_region_early ((0, 0) :: (1, 0) :: (2, 0) :: (3, 1) :: (4, 0) :: (5, 0) :: (6, 0) :: (7, 1) :: (8, 0) :: []) (by kernel_rfl) (by kernel_rfl) (fun _ _ d _ _ h => by cases d <;> exact h) ?_
        have hxE := @ExtN.cell (w.heap.size)
        all_goals (apply wpE_0; exact rfl; exact rfl; exact (wanted_free rfl); intro K hK; go_big_quiet_op; first | (refine hK _ ?_; clear hK K) | (split <;> (refine hK _ ?_; clear hK K)))
        all_goals (apply wpE_0; exact rfl; exact rfl; exact (wanted_free rfl); intro K hK; go_big_quiet_op; first | (refine hK _ ?_; clear hK K) | (split <;> (refine hK _ ?_; clear hK K)))
        all_goals (apply wpE_0; exact rfl; exact rfl; exact (wanted_free rfl); intro K hK; go_big_quiet_op; first | (refine hK _ ?_; clear hK K) | (split <;> (refine hK _ ?_; clear hK K)))
        all_goals (apply wpE_1 (w.heap.size) (by first | exact Nat.le_refl _ | assumption | (simp; done) | (simp; omega) | omega); exact rfl; exact rfl; exact (wanted_free rfl); intro K hK; go_big_quiet_op; first | (refine hK _ ?_; clear hK K) | (split <;> (refine hK _ ?_; clear hK K)))
        all_goals (apply wpE_0; exact rfl; exact rfl; exact (wanted_free rfl); intro K hK; go_big_quiet_op; first | (refine hK _ ?_; clear hK K) | (split <;> (refine hK _ ?_; clear hK K)))
        all_goals (apply wpE_0; exact rfl; exact rfl; exact (wanted_free rfl); intro K hK; go_big_quiet_op; first | (refine hK _ ?_; clear hK K) | (split <;> (refine hK _ ?_; clear hK K)))
        all_goals (apply wpE_0; exact rfl; exact rfl; exact (wanted_free rfl); intro K hK; go_big_quiet_op; first | (refine hK _ ?_; clear hK K) | (split <;> (refine hK _ ?_; clear hK K)))
        all_goals (apply wpE_1 (w.heap.size) (by first | exact Nat.le_refl _ | assumption | (simp; done) | (simp; omega) | omega); exact rfl; exact rfl; exact (wanted_free rfl); intro K hK; go_big_quiet_op; first | (refine hK _ ?_; clear hK K) | (split <;> (refine hK _ ?_; clear hK K)))
        all_goals (apply wpE_0; exact rfl; exact rfl; exact (wanted_free rfl); intro K hK; go_big_quiet_op; first | (refine hK _ ?_; clear hK K) | (split <;> (refine hK _ ?_; clear hK K)))
        all_goals (refine wpE_nil ?_; clear hxE)
        go_wp2
        · have hr := sameB_no HK.out HJ.out (by simpa using ‹(!t == t2) = true›)
          go_ret
          exact ⟨by rw [hr]; rfl, (by first | exact ⟨0, rfl⟩ | exact ⟨_, rfl⟩ | exact ⟨_, World.drewN_drewN _ _ _⟩ | exact ⟨_ + 1, rfl⟩)⟩
        · go_roundw
          case rel => exact ⟨k + 1, by omega, by go_num, sameB_yes HK.out HJ.out (by simpa using ‹(!t == t2) = false›) HN.out, (by first | exact ⟨0, rfl⟩ | exact ⟨_, rfl⟩ | exact ⟨_, World.drewN_drewN _ _ _⟩ | exact ⟨_ + 1, rfl⟩)⟩
          case measure => simp [intOf]; omega
      · go_wp2
        go_ret
        have : k = l.length := by omega
        subst this
        have h1 := HN.out
        have h2 := sameB_of_take HL.out (by rw [HL.out] at h1 ⊢; exact h1)
        exact ⟨by rw [h2]; rfl, _, rfl⟩
  · have t1 : ((l.length : Int) != (m.length : Int)) = true := by simp; omega
    have hr := Lib.hid (sameB_len hl)
    go_enter Tryz.func13, Tryz.ntmps13
    go_wp2
    go_ret
    exact ⟨by rw [hr.out]; rfl, 0, rfl⟩
end Go.Proofs.YtmiokpcolpcbaaaGreatDoor
