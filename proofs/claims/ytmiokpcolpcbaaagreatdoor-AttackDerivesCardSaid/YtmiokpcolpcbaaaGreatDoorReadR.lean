/- Read of the reference: what it comes to. -/
import Derived.Test.YtmiokpcolpcbaaaGreatDoorBase
import Derived.Test.YtmiokpcolpcbaaaGreatDoorPure
namespace Go.Proofs.YtmiokpcolpcbaaaGreatDoor
open Go.RowKit

set_option maxHeartbeats 1000000 in
theorem read_ref (s : Str) (w : World) (hs : s.length ≤ 1000000) :
    Calls Tryz.prog 14 #[st s] w fun e w' => ∃ av, e = .returned (.agg #[st (rd s).1, av]) ∧ OwnsS w' w.heap.size av (rd s).2 ∧ Below w.heap.size w w' := by
  go_enter Tryz.func14, Tryz.ntmps14
  go_wp2
  go_loop [3] (fun i => ∃ k : Nat, k ≤ s.length ∧ i = .int .i64 k ∧ ∀ j, j < k → s[j]? ≠ some 40) (fun i => s.length - (intOf i).toNat)
  case atStart => exact ⟨0, Nat.zero_le _, rfl, by simp⟩
  case round =>
    obtain ⟨k, hk, rfl, hn⟩ := hrel
    have HN := Lib.hid hn; clear hn
    by_cases hlt : k < s.length
    · have hkk : s[k]? = some s[k] := by simp [hlt]
      have hix := byte_at hkk hlt
      generalize s[k] = c at *
      have HK := Lib.hid hkk; clear hkk
      by_cases hc : c = 40
      · subst hc
        have hat := Lib.hid (headLen_of hlt HN.out HK.out)
        have hne : ¬ (k : Int) = (s.length : Int) := by omega
        have hll : s[s.length - 1]? = some (s[s.length - 1]'(by omega)) := by simp
        have hil := byte_at hll (by show s.length - 1 < s.length; omega)
        generalize s[s.length - 1]'(by omega) = z at *
        have HL := Lib.hid hll; clear hll
        by_cases hz : z = 41
        · subst hz
          have hex := ext_mk
          have hkl : k + 1 < s.length := by
            rcases Nat.lt_or_ge (k + 1) s.length with h | h
            · exact h
            · have h1 := HK.out
              have h2 := HL.out
              rw [show s.length - 1 = k by omega, h1] at h2
              simp at h2
          go_wp2
          go_loopw [5, 6, 7] (fun d f i wr => ∃ (i' f' : Nat) (d' : Int) (av : Value) (acc : List Str), k + 1 ≤ f' ∧ f' ≤ i' ∧ i' ≤ s.length - 1 ∧ i = .int .i64 i' ∧ f = .int .i64 f' ∧ d = .int .i64 d' ∧ -(i' : Int) ≤ d' ∧ d' ≤ i' ∧ acc.length ≤ i' ∧
              acc ++ cutGo ((s.take (s.length - 1)).drop i') d' ((s.take i').drop f') = (rd s).2 ∧ wr.heap[w.heap.size + 1]? = some (.cells #[st (s.take k), av] 41 (0, 0)) ∧ wr.heap[w.heap.size]? = some (.cells #[st [], .slice none 0 0] 41 (0, 0)) ∧
              OwnsS wr (w.heap.size + 2) av acc ∧ Below w.heap.size w wr ∧ w.heap.size + 2 ≤ wr.heap.size)
            (fun _ _ i _ => s.length - (intOf i).toNat)
          case atStart =>
            refine ⟨k + 1, k + 1, 0, .slice none 0 0, [], Nat.le_refl _, Nat.le_refl _, by omega, by go_num, by go_num, rfl, by omega, by omega, by simp, ?_, ?_, ?_, OwnsS.nil _ _, ((Below.refl _ _).alloc (Nat.le_refl _) _).alloc (by simp) _, by simp⟩
            · rw [rd_some hat.out hkl HL.out]; rfl
            · have := blk_new (w.alloc (.cells #[st [], .slice none 0 0] 41)) (.cells #[st (s.take k), .slice none 0 0] 41)
              simpa using this
            · exact (heap_alloc_old _ _ (by simp)).trans (blk_new w _)
          case round =>
            obtain ⟨i, f, d, av, acc, r1, r2, r3, rfl, rfl, rfl, r4, r5, r6, r7, r8, r9, r10, r11, r12⟩ := hrel
            have R7 := Lib.hid r7; clear r7
            by_cases hlt2 : i < s.length - 1
            · have hcc : s[i]? = some (s[i]'(by omega)) := by simp
              have hii := byte_at hcc (by show i < s.length; omega)
              generalize s[i]'(by omega) = c at *
              have ST := Lib.hid (cutGo_step (d := d) r2 hlt2 hcc)
              by_cases e1 : c = 40
              · subst e1
                have ER := Lib.hid (by have h1 := R7.out; rw [ST.out, if_pos rfl] at h1; exact h1)
                go_wp2
                go_roundw
                case rel => exact ⟨i + 1, f, d + 1, av, acc, r1, by omega, by omega, by go_num, rfl, rfl, by omega, by omega, by omega, ER.out, r8, r9, r10, r11, r12⟩
                case measure => simp [intOf]; omega
              · have t3 : ((c.toNat : Int) == 40) = false := u8_beq (d := 40) e1
                by_cases e2 : c = 41
                · subst e2
                  have ER := Lib.hid (by have h1 := R7.out; rw [ST.out, if_neg e1, if_pos rfl] at h1; exact h1)
                  go_wp2
                  go_roundw
                  case rel => exact ⟨i + 1, f, d - 1, av, acc, r1, by omega, by omega, by go_num, rfl, rfl, by omega, by omega, by omega, ER.out, r8, r9, r10, r11, r12⟩
                  case measure => simp [intOf]; omega
                · have t4 : ((c.toNat : Int) == 41) = false := u8_beq (d := 41) e2
                  by_cases e3 : c = 44
                  · subst e3
                    by_cases e4 : d = 0
                    · subst e4
                      have ER := Lib.hid (by have h1 := R7.out; rw [ST.out, if_neg e1, if_neg e2, if_pos ⟨rfl, rfl⟩] at h1; exact h1)
                      have c1 : wr.cell? ⟨w.heap.size + 1, 1, none⟩ = some av := by rw [blk_cell r8]; rfl
                      have hB1 : w.heap.size + 1 < wr.heap.size := by omega
                      go_wp2_with fail
                      refine wp_region_early ((0, 0) :: (1, 1) :: (2, 0) :: (3, 0) :: (4, 0) :: (5, 0) :: (6, 2) :: (7, 3) :: (8, 0) :: (9, 3) :: []) (by kernel_rfl) (by kernel_rfl) (fun _ _ d _ _ h => by cases d <;> exact h) ?_
                      have hxE := @ExtN.cell (wr.heap.size)
                      all_goals (apply wpE_0; exact rfl; exact rfl; exact (wanted_free rfl); intro K hK; go_big_quiet_op; first | (refine hK _ ?_; clear hK K) | (split <;> (refine hK _ ?_; clear hK K)))
                      all_goals (apply wpE_1 (wr.heap.size) (by first | exact Nat.le_refl _ | assumption | (simp; done) | (simp; omega) | omega); exact rfl; exact rfl; exact (wanted_free rfl); intro K hK; go_big_quiet_op; first | (refine hK _ ?_; clear hK K) | (split <;> (refine hK _ ?_; clear hK K)))
                      all_goals (apply wpE_0; exact rfl; exact rfl; exact (wanted_free rfl); intro K hK; go_big_quiet_op; first | (refine hK _ ?_; clear hK K) | (split <;> (refine hK _ ?_; clear hK K)))
                      all_goals (apply wpE_0; exact rfl; exact rfl; exact (wanted_free rfl); intro K hK; go_big_quiet_op; first | (refine hK _ ?_; clear hK K) | (split <;> (refine hK _ ?_; clear hK K)))
                      all_goals (apply wpE_0; exact rfl; exact rfl; exact (wanted_free rfl); intro K hK; go_big_quiet_op; first | (refine hK _ ?_; clear hK K) | (split <;> (refine hK _ ?_; clear hK K)))
                      all_goals (apply wpE_0; exact rfl; exact rfl; exact (wanted_free rfl); intro K hK; go_big_quiet_op; first | (refine hK _ ?_; clear hK K) | (split <;> (refine hK _ ?_; clear hK K)))
                      all_goals (apply wpE_2; exact rfl; intro K hK; go_simp; first | (refine hK _ _ (by first | exact Ext.refl _ | exact ext_alloc _ _ | exact ext_alloc_drew _ _) ?_; clear hK K))
                      all_goals (apply wpE_3; exact rfl; intro K hK; rw [if_pos (wanted_free rfl)]; refine wp_app_str (.tmp 69) (.tmp 74) rfl (w.heap.size + 2) av acc rfl (r10.mono (ext_alloc_d _ _)) wr.heap.size _ rfl (by simp; rfl) (by omega) (by simp; omega) ?_; intro v' w' q1 q2 ⟨a', c', q3⟩; obtain ⟨q4, q5, q6⟩ := after_app_d q2 r10; have q7 := q4 _ _ (by omega) r8; have q8 := q4 _ _ (by omega) r9; have q9 : w'.cell? ⟨w.heap.size + 1, 1, none⟩ = some av := (by rw [blk_cell q7]; rfl); have q10 := blk_frozen q7 1; refine hK _ _ ?_; clear hK K; (try simp only [Act.put, List.setIfInBounds_toArray, List.set_cons_zero, List.set_cons_succ]))
                      all_goals (apply wpE_0; exact rfl; exact rfl; exact (wanted_free rfl); intro K hK; go_big_quiet_op; first | (refine hK _ ?_; clear hK K) | (split <;> (refine hK _ ?_; clear hK K)))
                      all_goals (apply wpE_3; exact rfl; intro K hK; go_simp; first | (refine hK _ _ ?_; clear hK K))
                      all_goals (refine wpE_nil ?_; clear hxE)
                      have s1 := blk_set q7 1 v'
                      have s2 := (blk_other ⟨w.heap.size + 1, 1, none⟩ v' (show w.heap.size ≠ w.heap.size + 1 by omega)).trans q8
                      have s3 := q1.set_below ⟨w.heap.size + 1, 1, none⟩ (by simp) v'
                      have s4 := (q6 w w.heap.size (by omega) (by omega) r11).setCell (p := ⟨w.heap.size + 1, 1, none⟩) (by simp) v'
                      have s5 : w.heap.size + 2 ≤ (w'.setCell ⟨w.heap.size + 1, 1, none⟩ v').heap.size := by simp; omega
                      subst q3
                      generalize w'.setCell ⟨w.heap.size + 1, 1, none⟩ (.slice (some a') (acc.length + 1) c') = w2 at *
                      clear q1 q2 q4 q5 q6 q7 q8 q9 q10 r8 r9 r10 r11 c1
                      go_wp2
                      go_roundw
                      case rel => exact ⟨i + 1, i + 1, 0, _, acc ++ [(s.take i).drop f], by omega, by omega, by omega, by go_num, by go_num, rfl, by omega, by omega, by simp; omega, by rw [← ER.out]; simp, s1, s2, s3, s4, s5⟩
                      case measure => simp [intOf]; omega
                    · have ER := Lib.hid (by have h1 := R7.out; rw [ST.out, if_neg e1, if_neg e2, if_neg (fun h => e4 h.2)] at h1; exact h1)
                      have t5 : (d == 0) = false := by simpa using e4
                      go_wp2
                      go_roundw
                      case rel => exact ⟨i + 1, f, d, av, acc, r1, by omega, by omega, by go_num, rfl, rfl, by omega, by omega, by omega, ER.out, r8, r9, r10, r11, r12⟩
                      case measure => simp [intOf]; omega
                  · have ER := Lib.hid (by have h1 := R7.out; rw [ST.out, if_neg e1, if_neg e2, if_neg (fun h => e3 h.1)] at h1; exact h1)
                    have t6 : ((c.toNat : Int) == 44) = false := u8_beq (d := 44) e3
                    go_wp2
                    go_roundw
                    case rel => exact ⟨i + 1, f, d, av, acc, r1, by omega, by omega, by go_num, rfl, rfl, by omega, by omega, by omega, ER.out, r8, r9, r10, r11, r12⟩
                    case measure => simp [intOf]; omega
            · have hi : i = s.length - 1 := by omega
              have c1 : wr.cell? ⟨w.heap.size + 1, 1, none⟩ = some av := by rw [blk_cell r8]; rfl
              have hB1 : w.heap.size + 1 < wr.heap.size := by omega
              have h1s : 1 ≤ s.length := by omega
              have hfl : (f : Int) ≤ (s.length : Int) - 1 := by omega
              go_wp2_with fail
              refine wp_region_early ((0, 0) :: (1, 1) :: (2, 0) :: (3, 0) :: (4, 0) :: (5, 0) :: (6, 0) :: (7, 0) :: (8, 2) :: (9, 3) :: (10, 0) :: (11, 3) :: []) (by kernel_rfl) (by kernel_rfl) (fun _ _ d _ _ h => by cases d <;> exact h) ?_
              have hxE := @ExtN.cell (wr.heap.size)
              all_goals (apply wpE_0; exact rfl; exact rfl; exact (wanted_free rfl); intro K hK; go_big_quiet_op; first | (refine hK _ ?_; clear hK K) | (split <;> (refine hK _ ?_; clear hK K)))
              all_goals (apply wpE_1 (wr.heap.size) (by first | exact Nat.le_refl _ | assumption | (simp; done) | (simp; omega) | omega); exact rfl; exact rfl; exact (wanted_free rfl); intro K hK; go_big_quiet_op; first | (refine hK _ ?_; clear hK K) | (split <;> (refine hK _ ?_; clear hK K)))
              all_goals (apply wpE_0; exact rfl; exact rfl; exact (wanted_free rfl); intro K hK; go_big_quiet_op; first | (refine hK _ ?_; clear hK K) | (split <;> (refine hK _ ?_; clear hK K)))
              all_goals (apply wpE_0; exact rfl; exact rfl; exact (wanted_free rfl); intro K hK; go_big_quiet_op; first | (refine hK _ ?_; clear hK K) | (split <;> (refine hK _ ?_; clear hK K)))
              all_goals (apply wpE_0; exact rfl; exact rfl; exact (wanted_free rfl); intro K hK; go_big_quiet_op; first | (refine hK _ ?_; clear hK K) | (split <;> (refine hK _ ?_; clear hK K)))
              all_goals (apply wpE_0; exact rfl; exact rfl; exact (wanted_free rfl); intro K hK; go_big_quiet_op; first | (refine hK _ ?_; clear hK K) | (split <;> (refine hK _ ?_; clear hK K)))
              all_goals (apply wpE_0; exact rfl; exact rfl; exact (wanted_free rfl); intro K hK; go_big_quiet_op; first | (refine hK _ ?_; clear hK K) | (split <;> (refine hK _ ?_; clear hK K)))
              all_goals (apply wpE_0; exact rfl; exact rfl; exact (wanted_free rfl); intro K hK; go_big_quiet_op; first | (refine hK _ ?_; clear hK K) | (split <;> (refine hK _ ?_; clear hK K)))
              all_goals (apply wpE_2; exact rfl; intro K hK; go_simp; first | (refine hK _ _ (by first | exact Ext.refl _ | exact ext_alloc _ _ | exact ext_alloc_drew _ _) ?_; clear hK K))
              all_goals (apply wpE_3; exact rfl; intro K hK; rw [if_pos (wanted_free rfl)]; refine wp_app_str (.tmp 80) (.tmp 87) rfl (w.heap.size + 2) av acc rfl (r10.mono (ext_alloc_d _ _)) wr.heap.size _ rfl (by simp; rfl) (by omega) (by simp; omega) ?_; intro v' w' q1 q2 ⟨a', c', q3⟩; obtain ⟨q4, q5, q6⟩ := after_app_d q2 r10; have q7 := q4 _ _ (by omega) r8; have q8 := q4 _ _ (by omega) r9; have q9 : w'.cell? ⟨w.heap.size + 1, 1, none⟩ = some av := (by rw [blk_cell q7]; rfl); have q10 := blk_frozen q7 1; refine hK _ _ ?_; clear hK K; (try simp only [Act.put, List.setIfInBounds_toArray, List.set_cons_zero, List.set_cons_succ]))
              all_goals (apply wpE_0; exact rfl; exact rfl; exact (wanted_free rfl); intro K hK; go_big_quiet_op; first | (refine hK _ ?_; clear hK K) | (split <;> (refine hK _ ?_; clear hK K)))
              all_goals (apply wpE_3; exact rfl; intro K hK; go_simp; first | (refine hK _ _ ?_; clear hK K))
              all_goals (refine wpE_nil ?_; clear hxE)
              subst q3
              have s1 := blk_set q7 1 (.slice (some a') (acc.length + 1) c')
              have s2 := (blk_other ⟨w.heap.size + 1, 1, none⟩ (.slice (some a') (acc.length + 1) c') (show w.heap.size ≠ w.heap.size + 1 by omega)).trans q8
              have s3 := q1.set_below ⟨w.heap.size + 1, 1, none⟩ (by simp) (.slice (some a') (acc.length + 1) c')
              have s4 := (q6 w w.heap.size (by omega) (by omega) r11).setCell (p := ⟨w.heap.size + 1, 1, none⟩) (by simp) (.slice (some a') (acc.length + 1) c')
              generalize w'.setCell ⟨w.heap.size + 1, 1, none⟩ (.slice (some a') (acc.length + 1) c') = w2 at *
              have d0 : w2.cell? ⟨w.heap.size + 1, 0, none⟩ = some (st (s.take k)) := by rw [blk_cell s1]; rfl
              have d1 : w2.cell? ⟨w.heap.size + 1, 1, none⟩ = some (.slice (some a') (acc.length + 1) c') := by rw [blk_cell s1]; rfl
              have d2 : w2.cell? ⟨w.heap.size, 0, none⟩ = some (st []) := by rw [blk_cell s2]; rfl
              have d3 : w2.cell? ⟨w.heap.size, 1, none⟩ = some (.slice none 0 0) := by rw [blk_cell s2]; rfl
              have d4 := blk_frozen s2 0
              have d5 := blk_frozen s2 1
              clear q1 q2 q4 q5 q6 q7 q8 q9 q10 r8 r9 r10 r11 s1 s2
              go_wp2
              refine bodyPost_ret (v := .agg #[st (s.take k), .slice (some a') (acc.length + 1) c']) (by simp [results, Tryz.results14, go_sem, d2, d3]) rfl ⟨.slice (some a') (acc.length + 1) c', ?_⟩
              have e1 := R7.out
              rw [hi, cutGo_end] at e1
              rw [← e1, rd_some hat.out hkl HL.out]
              exact ⟨rfl, ((s3.set_below _ (by simp) _).set_below _ (by simp) _).le (by omega), (s4.setCell (by simp) _).setCell (by simp) _⟩
        · have t2 : ((z.toNat : Int) != 41) = true := u8_bne (d := 41) hz
          go_wp2
          refine bodyPost_ret (v := .agg #[st [], .slice none 0 0]) (by simp [results, Tryz.results14, go_sem]) rfl ⟨.slice none 0 0, ?_⟩
          rw [rd_none' HL.out hz]
          exact ⟨rfl, OwnsS.nil _ _, (Below.refl _ _).alloc (Nat.le_refl _) _⟩
      · have t1 : ((c.toNat : Int) != 40) = true := u8_bne (d := 40) hc
        go_wp2
        go_round
        case rel => exact ⟨k + 1, by omega, by go_num, fun j hj => by
          rcases Nat.lt_succ_iff_lt_or_eq.1 hj with h | rfl
          · exact HN.out j h
          · rw [HK.out]; simpa using hc⟩
        case measure => simp [intOf]; omega
    · have hat : Hid (headLen s = s.length) := headLen_end (fun j hj => HN.out j (by omega))
      have hz : k = s.length := by omega
      subst hz
      go_wp2
      refine bodyPost_ret (v := .agg #[st [], .slice none 0 0]) (by simp [results, Tryz.results14, go_sem]) rfl ⟨.slice none 0 0, ?_⟩
      rw [rd_none hat.out]
      exact ⟨rfl, OwnsS.nil _ _, (Below.refl _ _).alloc (Nat.le_refl _) _⟩
end Go.Proofs.YtmiokpcolpcbaaaGreatDoor
