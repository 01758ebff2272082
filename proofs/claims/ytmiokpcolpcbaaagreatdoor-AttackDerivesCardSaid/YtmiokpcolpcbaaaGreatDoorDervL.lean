/- AttackDerives: its walk. -/
import Derived.Test.YtmiokpcolpcbaaaGreatDoorWakesL
import Derived.Test.YtmiokpcolpcbaaaGreatDoorSafeS
import Derived.Test.YtmiokpcolpcbaaaGreatDoorDerR
import Derived.Test.YtmiokpcolpcbaaaGreatDoorStrA
import Derived.Test.YtmiokpcolpcbaaaGreatDoorLongR
import Derived.Test.YtmiokpcolpcbaaaGreatDoorDist
namespace Go.Proofs.YtmiokpcolpcbaaaGreatDoor
open Go.RowKit

theorem dv_bounds {l : List AObj} {g : List (Int × Int)} {s : List AStep} (h : shortB l g s = true) : l.length ≤ 8 ∧ g.length ≤ 40 ∧ s.length ≤ 60 ∧ ∀ x ∈ s, x.args.length ≤ 1000 := by
  unfold shortB at h
  simp only [Bool.and_eq_true, decide_eq_true_eq, List.all_eq_true] at h
  obtain ⟨⟨⟨⟨h1, h2⟩, h3⟩, h4⟩, h5⟩ := h
  refine ⟨h1, h2, h3, fun x hx => ?_⟩
  have := h5 x hx
  unfold shortS at this
  simp at this
  omega
/-- What is known, and the error's number. -/
def resK : Except Int (List Str) → List Str × Int
  | .error c => ([], c)
  | .ok k => (k, 0)
theorem DeriveOut.use {d : Except Int (List Str)} {w : World} {e : Ending} {w' : World} (h : DeriveOut d w e w') : ∃ kv, e = .returned (.tuple #[kv, .int .i64 (resK d).2]) ∧ Strs w' kv (resK d).1 ∧ Below w.heap.size w w' := by
  obtain ⟨hb, h⟩ := h
  cases d with
  | error c => exact ⟨_, h, Row.nil 1 _, hb⟩
  | ok k =>
    obtain ⟨av, h1, h2⟩ := h
    exact ⟨av, h1, h2.strs, hb⟩
theorem run_err_is {l : List AObj} : ∀ {steps : List AStep} {known : List Str} {c : Int}, runS l steps known = .error c → 0 ≤ c ∧ c ≤ 14
  | [], known, c, h => by simp only [runS] at h; cases h
  | st :: r, known, c, h => by
    simp only [runS] at h
    cases hx : stepO l known st with
    | none => rw [hx] at h; cases h; decide
    | some x =>
      rw [hx] at h
      dsimp only at h
      split at h
      · cases h; decide
      · exact run_err_is h
theorem resK_ok (l : List AObj) (given : List (Int × Int)) (steps : List AStep) : (0 ≤ (resK (deriveS l given steps)).2 ∧ (resK (deriveS l given steps)).2 ≤ 14) ∧ (resK (deriveS l given steps)).1.length ≤ given.length + steps.length := by
  cases h : deriveS l given steps with
  | ok k => exact ⟨⟨Int.le_refl _, show (0 : Int) ≤ 14 by decide⟩, by rw [show (resK (.ok k)).1 = k from rfl, (derive_take h).2]; exact Nat.le_refl _⟩
  | error c =>
    refine ⟨?_, by simp [resK]⟩
    show 0 ≤ c ∧ c ≤ 14
    unfold deriveS at h
    split at h
    · cases h; decide
    split at h
    · cases h; decide
    split at h
    · cases h; decide
    · exact run_err_is h

set_option maxRecDepth 100000 in
set_option maxHeartbeats 4000000 in
theorem derives_law (lv gv sv : Value) (l : List AObj) (given : List (Int × Int)) (steps : List AStep) (w : World) (hO : Objs w lv l) (hG : Pieces w gv given) (hS : Steps w sv steps) (hg : Glob w) :
    Calls Tryz.prog 3 #[lv, gv, sv] w fun e w' => e = .returned (.bool true) ∧ Below w.heap.size w w' := by
  go_enter Tryz.func3, Tryz.ntmps3
  go_wp2_with fail
  refine (wakes_law w hg).mono ?_
  rintro e w1 ⟨rfl, b1⟩
  have hz1 := b1.size
  have B1 := Lib.hid b1
  have hO1 := hO.mono b1
  have hG1 := hG.mono b1
  have hS1 := hS.mono b1
  have hg1 := hg.mono b1
  clear hO hG hS hg b1
  go_wp2_with fail
  refine (long_ref lv gv sv l given steps _ hO1 hG1 hS1).mono ?_
  rintro e w2 ⟨rfl, n2, rfl⟩
  have b2 := below_drewN' w1 n2
  cases hsh : shortB l given steps with
  | false =>
    go_wp2_with fail
    go_ret
    exact ⟨rfl, B1.out.trans (b2.mono hz1)⟩
  | true =>
    obtain ⟨hl8, hg40, hs60, ha20⟩ := dv_bounds hsh
    have hO2 := hO1.mono b2
    have hG2 := hG1.mono b2
    have hS2 := hS1.mono b2
    have hg2 := hg1.mono b2
    have B2 : Hid (Below w.heap.size w (w1.drewN n2)) := B1.out.trans (b2.mono hz1)
    have hz2 : w.heap.size ≤ (w1.drewN n2).heap.size := hz1
    clear hO1 hG1 hS1 hg1 b2 hsh B1 hz1
    have H2 := Lib.hid hO2
    have H3 := Lib.hid hG2
    have H4 := Lib.hid hS2
    have HA := Lib.hid ha20
    clear hO2 hG2 hS2 ha20
    go_wp2_with fail
    refine (derive_att lv gv sv l given steps _ H2.out H3.out H4.out hg2 (by omega) (by omega) HA.out).mono ?_
    rintro e w3 hd
    generalize w1.drewN n2 = w2 at *
    obtain ⟨kv, rfl, hk, b3⟩ := hd.use
    have HO := Lib.hid (H2.out.mono b3)
    have HG := Lib.hid (H3.out.mono b3)
    have HS := Lib.hid (H4.out.mono b3)
    have hz3 := b3.size
    have B3 : Hid (Below w.heap.size w w3) := B2.out.trans (b3.mono hz2)
    have HK := Lib.hid hk
    clear hd hk H2 H3 H4 hg2 B2 b3
    obtain ⟨ka, kc, rfl, _⟩ := HK.out.split
    go_wp2_with fail
    refine (derive_ref lv gv sv l given steps _ HO.out HG.out HS.out (by omega) (by omega) HA.out).mono ?_
    rintro e w4 hd
    obtain ⟨xv, rfl, hx, b4⟩ := hd.use
    have HG4 := Lib.hid (HG.out.mono b4)
    have HK4 := Lib.hid (HK.out.mono b4)
    have HX := Lib.hid hx
    have hz4 := b4.size
    have B4 : Hid (Below w.heap.size w w4) := B3.out.trans (b4.mono (by omega))
    clear hd hx b4 HK HG HS B3 HA
    obtain ⟨xa, xc, rfl, _⟩ := HX.out.split
    obtain ⟨⟨hr1, hr2⟩, hr3⟩ := resK_ok l given steps
    generalize resK (deriveS l given steps) = r at *
    obtain ⟨K, c⟩ := r
    simp only at hr1 hr2 hr3 HX HK4
    dsimp only
    have hKl : K.length ≤ 100 := by omega
    obtain ⟨_, oa, oc, rfl, _⟩ := HO.out
    obtain ⟨_, ga, gc, rfl, _⟩ := HG4.out
    have hz5 : w.heap.size ≤ w4.heap.size := B4.out.size
    clear HO hr3
    go_wp2_with fail
    go_loopw [34] (fun i wr => ∃ k : Nat, k ≤ l.length ∧ i = .int .i64 k ∧ Below w4.heap.size w4 wr) (fun i _ => l.length - (intOf i).toNat)
    case atStart => exact ⟨0, Nat.zero_le _, rfl, Below.refl _ _⟩
    case round =>
      obtain ⟨k, hk, rfl, r1⟩ := hrel
      have hzr := r1.size
      by_cases hlt : k < l.length
      · have hp := Lib.hid (HG4.out.mono r1)
        go_wp2_with fail
        refine (distinct_att _ given _ _ hp.out (by omega)).mono ?_
        rintro e w6 ⟨rfl, c6⟩
        have R6 : Hid (Below w4.heap.size w4 w6) := Lib.hid (r1.trans (c6.mono hzr))
        have hp6 := Lib.hid (hp.out.mono c6)
        clear c6 r1 hp
        go_wp2_with fail
        refine (distinct_ref _ given _ _ hp6.out (by omega)).mono ?_
        rintro e w7 ⟨rfl, n7, rfl⟩
        have R7 : Hid (Below w4.heap.size w4 (w6.drewN n7)) := Lib.hid (R6.out.trans ((below_drewN' w6 n7).mono R6.out.size))
        go_wp2_with fail
        go_roundw
        case rel => exact ⟨k + 1, by omega, by go_num, R7.out⟩
        case measure => simp [intOf]; omega
      · have HK6 := Lib.hid (HK4.out.mono r1)
        have HX6 := Lib.hid (HX.out.mono r1)
        have R6 : Hid (Below w.heap.size w wr) := Lib.hid (B4.out.trans (r1.mono hz5))
        clear r1 HK4 HX
        go_wp2_with fail
        refine (same_ref _ _ K K _ HK6.out HX6.out (by omega) (by omega)).mono ?_
        rintro e w7 ⟨rfl, n7, rfl⟩
        rw [show sameB K K = true by unfold sameB; simp]
        have R7 : Hid (Below w.heap.size w (wr.drewN n7)) := Lib.hid (R6.out.trans ((below_drewN' wr n7).mono R6.out.size))
        go_wp2_with fail
        go_ret
        exact ⟨by simp, R7.out⟩
end Go.Proofs.YtmiokpcolpcbaaaGreatDoor
