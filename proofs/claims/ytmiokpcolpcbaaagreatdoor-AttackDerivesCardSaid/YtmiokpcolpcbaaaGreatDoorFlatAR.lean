/- flat, parts of attack and of the reference. -/
import Derived.Test.YtmiokpcolpcbaaaGreatDoorReadA
namespace Go.Proofs.YtmiokpcolpcbaaaGreatDoor
open Go.RowKit

theorem flatB_eq (s : Str) : flatB s = ((rd s).1 == [104, 97, 115, 104] || (rd s).1 == [107, 101, 121] || (rd s).1 == [111, 119, 110] || (rd s).1 == [120, 111, 114]) := rfl

theorem field_att (x y : Value) (w : World) : (Instr.field 112 (.agg #[x, y]) 0).run Tryz.prog w = .ok x w := by kernel_rfl
theorem field_ref (x y : Value) (w : World) : (Instr.field 41 (.agg #[x, y]) 0).run Tryz.prog w = .ok x w := by kernel_rfl

set_option maxRecDepth 100000 in
set_option maxHeartbeats 1000000 in
theorem flat_att (s : Str) (w : World) (hg : Glob w) (hs : s.length ≤ 1000000) (ha : Asc s) :
    Calls Tryz.prog 59 #[st s] w fun e w' => e = .returned (.bool (flatB s)) ∧ Below w.heap.size w w' := by
  have HF := Lib.hid (flatB_eq s)
  go_enter Tryz.func59, Tryz.ntmps59
  go_wp2_with fail
  refine (read_att s _ hg hs ha).mono ?_
  rintro e w' ⟨av, rfl, _, hb⟩
  have hfd := field_att
  generalize (rd s).1 = h at *
  have hbb := Lib.hid hb; clear hb
  go_wp2
  all_goals (go_ret; exact ⟨by rw [HF.out]; first | (simp [*]; done) | simp_all, hbb.out⟩)

set_option maxRecDepth 100000 in
set_option maxHeartbeats 1000000 in
theorem flat_ref (s : Str) (w : World) (hs : s.length ≤ 1000000) :
    Calls Tryz.prog 63 #[st s] w fun e w' => e = .returned (.bool (flatB s)) ∧ Below w.heap.size w w' := by
  have HF := Lib.hid (flatB_eq s)
  go_enter Tryz.func63, Tryz.ntmps63
  go_wp2_with fail
  refine (read_ref s _ hs).mono ?_
  rintro e w' ⟨av, rfl, _, hb⟩
  have hfd := field_ref
  generalize (rd s).1 = h at *
  have hbb := Lib.hid hb; clear hb
  go_wp2
  all_goals (go_ret; exact ⟨by rw [HF.out]; first | (simp [*]; done) | simp_all, hbb.out⟩)

set_option maxHeartbeats 1000000 in
theorem parts_att (s : Str) (w : World) (hg : Glob w) (hs : s.length ≤ 1000000) (ha : Asc s) :
    Calls Tryz.prog 53 #[st s] w fun e w' => ∃ av, e = .returned av ∧ OwnsS w' w.heap.size av (partsS s) ∧ Below w.heap.size w w' := by
  go_enter Tryz.func53, Tryz.ntmps53
  go_wp2_with fail
  refine (read_att s _ hg hs ha).mono ?_
  rintro e w' ⟨av, rfl, hown, hb⟩
  have HP : Hid (partsS s = if (rd s).1 = sXor then (rd s).2 else [s]) := rfl
  by_cases hx : (rd s).1 = sXor
  · have HP2 : Hid (partsS s = (rd s).2) := by have := HP.out; rw [if_pos hx] at this; exact this
    obtain ⟨a, cap, hav2, _⟩ := hown.strs.split
    subst hav2
    rw [hx]
    have hbb := Lib.hid hb; clear hb HP hx
    have ho := Lib.hid hown; clear hown
    unfold sXor
    go_wp2
    go_ret
    exact ⟨_, rfl, by rw [HP2.out]; exact ho.out.mono (ext_alloc _ _), (by repeat (first | exact Below.refl _ _ | exact hbb.out | refine Below.trans ?_ (Below.mono hbb.out (by first | (simp; done) | (simp; omega) | omega)) | refine Below.setCell ?_ (by first | (simp; done) | (simp; omega) | (have hszq := (hbb.out).size; simp at hszq ⊢; omega)) _ | refine Below.alloc ?_ (by first | (simp; done) | (simp; omega) | (have hszq := (hbb.out).size; simp at hszq ⊢; omega)) _ | refine below_drewN ?_ _ | refine Below.drew ?_))⟩
  · have HP2 : Hid (partsS s = [s]) := by have := HP.out; rw [if_neg hx] at this; exact this
    have t1 : ((rd s).1 == [120, 111, 114]) = false := by rw [beq_eq_false_iff_ne]; exact hx
    obtain ⟨a, cap, hav2, _⟩ := hown.strs.split
    subst hav2
    have hbb := Lib.hid hb; clear hb HP hx hown
    go_wp2
    go_ret
    have hz : w.heap.size ≤ w'.heap.size := hbb.out.size
    exact ⟨_, rfl, by rw [HP2.out]; simpa using OwnsS.single (w'.alloc _) w.heap.size s (by simp; omega), (by repeat (first | exact Below.refl _ _ | exact hbb.out | refine Below.trans ?_ (Below.mono hbb.out (by first | (simp; done) | (simp; omega) | omega)) | refine Below.setCell ?_ (by first | (simp; done) | (simp; omega) | (have hszq := (hbb.out).size; simp at hszq ⊢; omega)) _ | refine Below.alloc ?_ (by first | (simp; done) | (simp; omega) | (have hszq := (hbb.out).size; simp at hszq ⊢; omega)) _ | refine below_drewN ?_ _ | refine Below.drew ?_))⟩

set_option maxHeartbeats 1000000 in
theorem parts_ref (s : Str) (w : World) (hs : s.length ≤ 1000000) :
    Calls Tryz.prog 103 #[st s] w fun e w' => ∃ av, e = .returned av ∧ OwnsS w' w.heap.size av (partsS s) ∧ Below w.heap.size w w' := by
  go_enter Tryz.func103, Tryz.ntmps103
  go_wp2_with fail
  refine (read_ref s _ hs).mono ?_
  rintro e w' ⟨av, rfl, hown, hb⟩
  have HP : Hid (partsS s = if (rd s).1 = sXor then (rd s).2 else [s]) := rfl
  by_cases hx : (rd s).1 = sXor
  · have HP2 : Hid (partsS s = (rd s).2) := by have := HP.out; rw [if_pos hx] at this; exact this
    obtain ⟨a, cap, hav2, _⟩ := hown.strs.split
    subst hav2
    rw [hx]
    have hbb := Lib.hid hb; clear hb HP hx
    have ho := Lib.hid hown; clear hown
    unfold sXor
    go_wp2
    go_ret
    exact ⟨_, rfl, by rw [HP2.out]; exact ho.out.mono (ext_alloc _ _), (by repeat (first | exact Below.refl _ _ | exact hbb.out | refine Below.trans ?_ (Below.mono hbb.out (by first | (simp; done) | (simp; omega) | omega)) | refine Below.setCell ?_ (by first | (simp; done) | (simp; omega) | (have hszq := (hbb.out).size; simp at hszq ⊢; omega)) _ | refine Below.alloc ?_ (by first | (simp; done) | (simp; omega) | (have hszq := (hbb.out).size; simp at hszq ⊢; omega)) _ | refine below_drewN ?_ _ | refine Below.drew ?_))⟩
  · have HP2 : Hid (partsS s = [s]) := by have := HP.out; rw [if_neg hx] at this; exact this
    have t1 : ((rd s).1 == [120, 111, 114]) = false := by rw [beq_eq_false_iff_ne]; exact hx
    obtain ⟨a, cap, hav2, _⟩ := hown.strs.split
    subst hav2
    have hbb := Lib.hid hb; clear hb HP hx hown
    go_wp2_with (at_builtin; refine wpl_app_str rfl (.tmp 12) (.tmp 14) rfl w.heap.size _ [] rfl (OwnsS.nil _ _) (w'.heap.size + 1) s rfl (by simp) (by simp) (by have := hbb.out.size; simp; omega) ?_; intro v2 w2 q1 q2 q3)
    go_ret
    exact ⟨_, rfl, by rw [HP2.out]; exact q1, by
      have hz := hbb.out.size
      exact Below.grown (row := none) (((hbb.out).alloc hz _).alloc (by simp; omega) _) q2 (by simp; omega) (fun k hk => by cases hk)⟩
end Go.Proofs.YtmiokpcolpcbaaaGreatDoor
