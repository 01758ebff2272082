/- cut of attack: what it comes to. -/
import Derived.Test.YtmiokpcolpcbaaaGreatDoorBase
import Derived.Test.YtmiokpcolpcbaaaGreatDoorPure
namespace Go.Proofs.YtmiokpcolpcbaaaGreatDoor
open Go.RowKit

set_option maxRecDepth 100000 in
set_option maxHeartbeats 1000000 in
theorem cut_att (s : Str) (w : World) (hs : s.length ≤ 1000000) (ha : ∀ c ∈ s, c.toNat < 128) :
    Calls Tryz.prog 102 #[st s] w fun e w' => ∃ av, e = .returned av ∧ OwnsS w' w.heap.size av (cutS s) ∧ Below w.heap.size w w' := by
  have hex := ext_mk
  go_enter Tryz.func102, Tryz.ntmps102
  go_wp2
  go_loopw [3, 4, 5] (fun o d f wr => ∃ (i f' : Nat) (d' : Int) (av : Value) (acc : List Str), f' ≤ i ∧ i ≤ s.length ∧ av = o ∧ f = .int .i64 f' ∧ d = .int .i64 d' ∧ -(i : Int) ≤ d' ∧ d' ≤ i ∧ acc.length ≤ i ∧
      acc ++ cutGo ((s.take s.length).drop i) d' ((s.take i).drop f') = cutS s ∧ wr.heap[w.heap.size]? = some (.stringIter ⟨s.toArray⟩ i) ∧ OwnsS wr (w.heap.size + 1) av acc ∧ Below w.heap.size w wr)
    (fun _ _ _ wr => s.length - wr.iterPos w.heap.size)
  case atStart =>
    exact ⟨0, 0, 0, .slice none 0 0, [], Nat.le_refl _, Nat.zero_le _, rfl, rfl, rfl, by omega, by omega, by simp, by simp [cutS], World.iter_heap w _ 0, OwnsS.nil _ _, (Below.refl _ _).alloc (Nat.le_refl _) _⟩
  case round =>
    obtain ⟨i, f, d, av, acc, r1, r2, rfl, rfl, rfl, r4, r5, r6, r7, r8, r9, r10⟩ := hrel
    have R7 := Lib.hid r7; clear r7
    have hB := blk_lt r8
    by_cases hlt : i < s.length
    · have hcc : s[i]? = some (s[i]) := by simp
      have hcl : (s[i]).toNat < 128 := ha _ (List.getElem_mem _)
      have hnx := fun ty => Lib.run_next_ascii_at (P := Tryz.prog) wr w.heap.size ⟨s.toArray⟩ i ty r8 hlt (by rw [byte_at hcc hlt]; exact hcl)
      rw [byte_at hcc hlt] at hnx
      have HP := Lib.hid (iterPos_of r8)
      have g8 := Lib.iterAt_heap wr w.heap.size ⟨s.toArray⟩ i (i + 1) r8
      have g9 := r9.iterAt (k := w.heap.size) (by omega) ⟨s.toArray⟩ (i + 1)
      have g10 := Lib.below_iterAt r10 (Nat.le_refl _) ⟨s.toArray⟩ (i + 1)
      have gB := blk_lt g8
      generalize wr.iterAt w.heap.size ⟨s.toArray⟩ (i + 1) = w2 at *
      generalize s[i] = c at *
      have ST := Lib.hid (cutGo_step (d := d) r1 hlt hcc)
      clear r8 r9 r10 ha hcl
      have HQ := Lib.hid (iterPos_of g8)
      by_cases e1 : c = 40
      · subst e1
        have ER := Lib.hid (by have h1 := R7.out; rw [ST.out, if_pos rfl] at h1; exact h1)
        go_wp2
        go_roundw
        case rel => exact ⟨i + 1, f, d + 1, av, acc, by omega, by omega, rfl, rfl, rfl, by omega, by omega, by omega, ER.out, g8, g9, g10⟩
        case measure => rw [HP.out, HQ.out]; omega
      · have t3 : ((c.toNat : Int) == 40) = false := u8_beq (d := 40) e1
        by_cases e2 : c = 41
        · subst e2
          have ER := Lib.hid (by have h1 := R7.out; rw [ST.out, if_neg e1, if_pos rfl] at h1; exact h1)
          go_wp2
          go_roundw
          case rel => exact ⟨i + 1, f, d - 1, av, acc, by omega, by omega, rfl, rfl, rfl, by omega, by omega, by omega, ER.out, g8, g9, g10⟩
          case measure => rw [HP.out, HQ.out]; omega
        · have t4 : ((c.toNat : Int) == 41) = false := u8_beq (d := 41) e2
          by_cases e3 : c = 44
          · subst e3
            by_cases e4 : d = 0
            · subst e4
              have ER := Lib.hid (by have h1 := R7.out; rw [ST.out, if_neg e1, if_neg e2, if_pos ⟨rfl, rfl⟩] at h1; exact h1)
              have hfi : (f : Int) ≤ i := by omega
              go_wp2_with (at_builtin; refine wpl_app_str rfl (.tmp 27) (.tmp 32) rfl (w.heap.size + 1) av acc rfl (g9.mono (ext_alloc _ _)) w2.heap.size _ rfl (by simp; rfl) (by omega) (by simp; omega) ?_; intro v' w' q1 q2 q3; obtain ⟨q4, q5, q6⟩ := after_app q2 g9; have q8 := q4 _ _ (by omega) g8; have q10 := q6 w w.heap.size (by omega) (by omega) g10; have HQ' := Lib.hid (iterPos_of q8); clear q2 q4 q5 q6 g8 g9 g10 HQ)
              go_roundw
              case rel => exact ⟨i + 1, i + 1, 0, _, acc ++ [(s.take i).drop f], by omega, by omega, rfl, by go_num, rfl, by omega, by omega, by simp; omega, by rw [← ER.out]; simp, q8, q1, q10⟩
              case measure => rw [HP.out, HQ'.out]; omega
            · have ER := Lib.hid (by have h1 := R7.out; rw [ST.out, if_neg e1, if_neg e2, if_neg (fun h => e4 h.2)] at h1; exact h1)
              have t5 : (d == 0) = false := by simpa using e4
              go_wp2
              go_roundw
              case rel => exact ⟨i + 1, f, d, av, acc, by omega, by omega, rfl, rfl, rfl, by omega, by omega, by omega, ER.out, g8, g9, g10⟩
              case measure => rw [HP.out, HQ.out]; omega
          · have ER := Lib.hid (by have h1 := R7.out; rw [ST.out, if_neg e1, if_neg e2, if_neg (fun h => e3 h.1)] at h1; exact h1)
            have t6 : ((c.toNat : Int) == 44) = false := u8_beq (d := 44) e3
            go_wp2
            go_roundw
            case rel => exact ⟨i + 1, f, d, av, acc, by omega, by omega, rfl, rfl, rfl, by omega, by omega, by omega, ER.out, g8, g9, g10⟩
            case measure => rw [HP.out, HQ.out]; omega
    · have hi : i = s.length := by omega
      have hnx := fun ty => Lib.run_next_end_at (P := Tryz.prog) wr w.heap.size ⟨s.toArray⟩ i ty r8 (by show ¬ i < s.length; omega)
      have hfl : (f : Int) ≤ s.length := by omega
      go_wp2_with (at_builtin; refine wpl_app_str rfl (.tmp 36) (.tmp 40) rfl (w.heap.size + 1) av acc rfl (r9.mono (ext_alloc _ _)) wr.heap.size _ rfl (by simp; rfl) (by omega) (by simp; omega) ?_; intro v' w' q1 q2 q3; obtain ⟨q4, q5, q6⟩ := after_app q2 r9; have q10 := q6 w w.heap.size (by omega) (by omega) r10; clear q2 q4 q5 q6 r8 r9 r10)
      go_ret
      have e1 := R7.out
      rw [hi, cutGo_end] at e1
      exact ⟨_, rfl, by rw [← e1, List.take_length]; exact q1.le (by omega), q10⟩
end Go.Proofs.YtmiokpcolpcbaaaGreatDoor
