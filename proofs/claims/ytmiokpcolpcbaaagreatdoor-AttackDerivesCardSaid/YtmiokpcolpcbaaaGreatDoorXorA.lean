/- Xor of attack. -/
import Derived.Test.YtmiokpcolpcbaaaGreatDoorFlatAR
namespace Go.Proofs.YtmiokpcolpcbaaaGreatDoor
open Go.RowKit

def xorL (a b : Str) : List Str := onlyIn (partsS a) (partsS b) ++ onlyIn (partsS b) (partsS a)
def xorS (a b : Str) : Str := finS (sortS (xorL a b))

set_option maxRecDepth 100000 in
set_option maxHeartbeats 2000000 in
theorem xor_att (s t : Str) (w : World) (hg : Glob w) (hs : s.length ≤ 100000) (ht : t.length ≤ 100000) (ha : Asc s) (hb : Asc t)
    (hx : (partsS s).length ≤ 100000) (hy : (partsS t).length ≤ 100000) (hj : (Lib.join (sortS (xorL s t)) [44]).length ≤ 1000000) :
    Calls Tryz.prog 25 #[st s, st t] w fun e w' => e = .returned (st (xorS s t)) ∧ Below w.heap.size w w' := by
  go_enter Tryz.func25, Tryz.ntmps25
  go_wp2_with fail
  refine (parts_att s _ hg (by omega) ha).mono ?_
  rintro e w1 ⟨xv, rfl, ox, hb1⟩
  have hg1 := hg.mono hb1
  have hb1' := Lib.hid hb1; clear hb1
  have ox' := Lib.hid ox; clear ox
  go_wp2_with fail
  refine (parts_att t _ hg1 (by omega) hb).mono ?_
  rintro e w2 ⟨yv, rfl, oy, hb2⟩
  have hg2 := hg1.mono hb2
  have hb2' := Lib.hid (hb1'.out.trans (hb2.mono hb1'.out.size))
  have sx := (ox'.out.mono hb2).strs
  have sy := oy.strs
  obtain ⟨xa, xc, ex, _⟩ := sx.split
  obtain ⟨ya, yc, ey, _⟩ := sy.split
  have HJ := Lib.hid hj
  have HF : Hid (xorS s t = finS (sortS (onlyIn (partsS s) (partsS t) ++ onlyIn (partsS t) (partsS s)))) := rfl
  unfold xorL at HJ
  clear hb2 oy ox' hb1' hj
  generalize partsS s = x at *
  generalize partsS t = y at *
  subst ex
  subst ey
  go_wp2_with fail
  go_loopw [18, 7, 9] (fun c o _ wr => ∃ (k : Nat) (av : Value), k ≤ x.length ∧ c = .int .i64 k ∧ av = o ∧ OwnsS wr w2.heap.size av (onlyIn (x.take k) y) ∧ Below w2.heap.size w2 wr) (fun c _ _ _ => x.length - (intOf c).toNat)
  case atStart => exact ⟨0, _, Nat.zero_le _, rfl, rfl, OwnsS.nil _ _, Below.refl _ _⟩
  case round =>
    obtain ⟨k, av, hk, rfl, rfl, r1, r2⟩ := hrel
    have hsz := r2.size
    by_cases hlt : k < x.length
    · have hkk : x[k]? = some x[k] := by simp [hlt]
      obtain ⟨b, off, rfl, hbb, hc⟩ := (sx.mono r2).get hkk
      have hy1 := Lib.hid (sy.mono r2)
      generalize x[k] = u at *
      have ON := Lib.hid (onlyIn_succ (m := y) hkk); clear hkk
      have hll : (onlyIn (x.take k) y).length ≤ x.length := Nat.le_trans (onlyIn_le _ _) (by rw [List.length_take]; omega)
      go_wp2_with fail
      refine (contains_any _ y u _ hy1.out (by omega)).mono ?_
      rintro e w' ⟨rfl, rfl⟩
      by_cases hu : hasB y u = true
      · rw [hu]
        have ON2 := Lib.hid (by have := ON.out; rw [if_pos hu] at this; exact this)
        clear hu ON
        go_wp2
        go_roundw
        case rel => exact ⟨k + 1, _, by omega, by go_num, rfl, by rw [ON2.out]; exact r1, r2⟩
        case measure => simp [intOf]; omega
      · have hu' : hasB y u = false := by simpa using hu
        rw [hu']
        have ON2 := Lib.hid (by have := ON.out; rw [if_neg hu] at this; exact this)
        clear hu hu' ON
        go_wp2_with (at_builtin; refine wpl_app_str rfl (.tmp 26) (.tmp 28) rfl w2.heap.size av _ rfl (r1.mono (ext_alloc _ _)) wr.heap.size _ rfl (by simp; rfl) (by omega) (by simp; omega) ?_; intro v' w' q1 q2 q3; obtain ⟨q4, q5, q6⟩ := after_app q2 r1; have q10 := q6 w2 w2.heap.size (by omega) (by omega) r2; clear q2 q4 q5 q6 r1 r2)
        go_roundw
        case rel => exact ⟨k + 1, _, by omega, by go_num, rfl, by rw [ON2.out]; exact q1, q10⟩
        case measure => simp [intOf]; omega
    · have hke : k = x.length := by omega
      subst hke
      have R1 := Lib.hid (by have := r1; rw [List.take_length] at this; exact this)
      clear r1
      have SX := sx
      have SY := sy
      have hlx : (onlyIn x y).length ≤ x.length := onlyIn_le _ _
      have hg3 := hg2.mono r2
      have RB := Lib.hid r2
      have hsz3 : w2.heap.size ≤ wr.heap.size := r2.size
      clear r2 hsz sx sy
      obtain ⟨w3, hw3⟩ : ∃ w3, w3 = wr := ⟨_, rfl⟩
      subst hw3
      go_wp2_with fail
      go_loopw [33, 7, 11] (fun c o _ wr => ∃ (k : Nat) (bv : Value), k ≤ y.length ∧ c = .int .i64 k ∧ bv = o ∧ OwnsS wr w2.heap.size bv (onlyIn x y ++ onlyIn (y.take k) x) ∧ Below w2.heap.size w2 wr) (fun c _ _ _ => y.length - (intOf c).toNat)
      case atStart => exact ⟨0, _, Nat.zero_le _, rfl, rfl, by simpa [onlyIn_nil] using R1.out, RB.out⟩
      case round =>
        obtain ⟨k, bv, hk2, rfl, rfl, r1, r2⟩ := hrel
        have hsz := r2.size
        by_cases hlt2 : k < y.length
        · have hkk : y[k]? = some y[k] := by simp [hlt2]
          have b2 : Below w2.heap.size w2 wr := r2
          have hx1 : Strs wr (.slice xa x.length xc) x := SX.mono r2
          obtain ⟨b, off, rfl, hbb, hc⟩ := (SY.mono r2).get hkk
          generalize y[k] = u at *
          have ON := Lib.hid (onlyIn_succ (m := x) hkk); clear hkk
          have hll : (onlyIn (y.take k) x).length ≤ y.length := Nat.le_trans (onlyIn_le _ _) (by rw [List.length_take]; omega)
          have hx2 := Lib.hid hx1; clear hx1
          go_wp2_with fail
          refine (contains_any _ x u _ hx2.out (by omega)).mono ?_
          rintro e w' ⟨rfl, rfl⟩
          by_cases hu : hasB x u = true
          · rw [hu]
            have ON2 := Lib.hid (by have := ON.out; rw [if_pos hu] at this; exact this)
            clear hu ON
            go_wp2
            go_roundw
            case rel => exact ⟨k + 1, _, by omega, by go_num, rfl, by rw [ON2.out]; exact r1, r2⟩
            case measure => simp [intOf]; omega
          · have hu' : hasB x u = false := by simpa using hu
            rw [hu']
            have ON2 := Lib.hid (by have := ON.out; rw [if_neg hu] at this; exact this)
            clear hu hu' ON
            go_wp2_with (at_builtin; refine wpl_app_str rfl (.tmp 41) (.tmp 43) rfl w2.heap.size bv _ rfl (r1.mono (ext_alloc _ _)) wr.heap.size _ rfl (by simp; rfl) (by simp; omega) (by simp; omega) ?_; intro v' w' q1 q2 q3; obtain ⟨q4, q5, q6⟩ := after_app q2 r1; have q10 := q6 w2 w2.heap.size (by omega) (by omega) r2; clear q2 q4 q5 q6 r1 r2)
            go_roundw
            case rel => exact ⟨k + 1, _, by omega, by go_num, rfl, by rw [ON2.out, ← List.append_assoc]; exact q1, q10⟩
            case measure => simp [intOf]; omega
        · have hke : k = y.length := by omega
          subst hke
          rw [List.take_length] at r1
          have hly : (onlyIn y x).length ≤ y.length := onlyIn_le _ _
          have hll : (onlyIn x y ++ onlyIn y x).length ≤ 1000000 := by simp; omega
          generalize onlyIn x y ++ onlyIn y x = L at *
          have R1' := Lib.hid r1
          have RB' := Lib.hid r2
          have hg4 := hg2.mono r2
          clear r1 r2
          go_wp2_with fail
          refine (sort_any w2.heap.size _ L _ R1'.out (by omega)).mono ?_
          rintro e w5 ⟨rfl, os, hgr⟩
          have RB5 : Hid (Below w2.heap.size w2 w5) := RB'.out.grown hgr hsz (fun k hk => R1'.out.own_ge k hk)
          have hw5 : wr.heap.size ≤ w5.heap.size := hgr.size
          have FIN : Hid (Below w.heap.size w w5) := hb2'.out.trans (RB5.out.mono hb2'.out.size)
          have hsl : (sortS L).length ≤ 1000000 := by simpa [sortS] using hll
          have HSL := Lib.hid hsl; clear hsl
          generalize sortS L = m at *
          obtain ⟨ma, mc, em, _⟩ := os.strs.split
          subst em
          have SM := Lib.hid os.strs
          clear os hgr
          match m, HJ, HF, SM, HSL with
          | [], HJ, HF, SM, _ =>
            go_wp2_with fail
            refine (told_any [111, 119, 110] _ [[48]] _ (OwnsS.single _ 0 [48] (Nat.zero_le _)).strs (by decide) (by decide) (by decide)).mono ?_
            rintro e w' ⟨rfl, hb⟩
            have hbq := Lib.hid hb; clear hb
            go_wp2
            go_ret
            rw [HF.out]
            have hz := FIN.out.size
            exact ⟨rfl, FIN.out.trans (((Below.refl _ w5).alloc hz _).trans (hbq.out.mono (by simp; omega)))⟩
          | [u], HJ, HF, SM, _ =>
            obtain ⟨b, off, rfl, hbb, hc⟩ := SM.out.get (i := 0) (t := u) rfl
            simp only [Nat.add_zero] at hc
            go_wp2
            go_ret
            rw [HF.out]
            exact ⟨rfl, FIN.out⟩
          | u :: u2 :: r, HJ, HF, SM, HSL =>
            have hln : (u :: u2 :: r).length ≤ 1000000 := HSL.out
            have t1 : (((u :: u2 :: r).length : Int) == 0) = false := by rw [beq_eq_false_iff_ne]; simp; omega
            have t2 : (((u :: u2 :: r).length : Int) == 1) = false := by rw [beq_eq_false_iff_ne]; simp; omega
            have hm2 : Hid (finS (u :: u2 :: r) = toldS sXor (u :: u2 :: r)) := rfl
            generalize (u :: u2 :: r) = m at *
            go_wp2_with fail
            refine (told_any [120, 111, 114] _ m _ SM.out (by decide) hln HJ.out).mono ?_
            rintro e w' ⟨rfl, hb⟩
            have hbq := Lib.hid hb; clear hb
            go_wp2
            go_ret
            rw [HF.out, hm2.out]
            have hz := FIN.out.size
            exact ⟨rfl, FIN.out.trans (hbq.out.mono hz)⟩
end Go.Proofs.YtmiokpcolpcbaaaGreatDoor
