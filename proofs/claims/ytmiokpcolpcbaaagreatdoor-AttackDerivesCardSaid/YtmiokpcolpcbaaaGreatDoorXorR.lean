/- Xor of the reference. -/
import Derived.Test.YtmiokpcolpcbaaaGreatDoorInsR
import Derived.Test.YtmiokpcolpcbaaaGreatDoorStrA
namespace Go.Proofs.YtmiokpcolpcbaaaGreatDoor
open Go.RowKit

def xorRL (a b : Str) : List Str := insAll (insAll [] (onlyIn (partsS a) (partsS b))) (onlyIn (partsS b) (partsS a))
def xorR (a b : Str) : Str := finS (xorRL a b)

set_option maxRecDepth 100000 in
set_option maxHeartbeats 4000000 in
theorem xor_ref (s t : Str) (w : World) (hs : s.length ≤ 100000) (ht : t.length ≤ 100000)
    (hx : (partsS s).length ≤ 100000) (hy : (partsS t).length ≤ 100000) (hj : (Lib.join (xorRL s t) [44]).length ≤ 1000000) :
    Calls Tryz.prog 64 #[st s, st t] w fun e w' => e = .returned (st (xorR s t)) ∧ Below w.heap.size w w' := by
  have hcat := bcat
  go_enter Tryz.func64, Tryz.ntmps64
  go_wp2_with fail
  refine (parts_ref s _ (by omega)).mono ?_
  rintro e w1 ⟨xv, rfl, ox, hb1⟩
  have hb1' := Lib.hid hb1; clear hb1
  have ox' := Lib.hid ox; clear ox
  go_wp2_with fail
  refine (parts_ref t _ (by omega)).mono ?_
  rintro e w2 ⟨yv, rfl, oy, hb2⟩
  have hb2' := Lib.hid (hb1'.out.trans (hb2.mono hb1'.out.size))
  have sx := (ox'.out.mono hb2).strs
  have sy := oy.strs
  obtain ⟨xa, xc, ex, _⟩ := sx.split
  obtain ⟨ya, yc, ey, _⟩ := sy.split
  have HJ := Lib.hid hj
  have HF : Hid (xorR s t = finS (insAll (insAll [] (onlyIn (partsS s) (partsS t))) (onlyIn (partsS t) (partsS s)))) := rfl
  unfold xorRL at HJ
  clear hb2 oy ox' hb1' hj
  generalize partsS s = x at *
  generalize partsS t = y at *
  subst ex
  subst ey
  go_wp2_with fail
  go_loopw [8, 7] (fun c o wr => ∃ (k : Nat) (av : Value), k ≤ x.length ∧ c = .int .i64 k ∧ av = o ∧ OwnsS wr w2.heap.size av (insAll [] (onlyIn (x.take k) y)) ∧ Below w2.heap.size w2 wr) (fun c _ _ => x.length - (intOf c).toNat)
  case atStart => exact ⟨0, _, Nat.zero_le _, rfl, rfl, OwnsS.nil _ _, Below.refl _ _⟩
  case round =>
    obtain ⟨k, av, hk, rfl, rfl, r1, r2⟩ := hrel
    have hsz := r2.size
    by_cases hlt : k < x.length
    · have hkk : x[k]? = some x[k] := by simp [hlt]
      obtain ⟨b, off, rfl, hbb, hc⟩ := (sx.mono r2).get hkk
      have hy1 := Lib.hid (sy.mono r2)
      generalize x[k] = u at *
      have ON := Lib.hid (onlyIn_succ (m := y) hkk)
      have HK := Lib.hid hkk; clear hkk
      have hll : (onlyIn (x.take k) y).length ≤ x.length := Nat.le_trans (onlyIn_le _ _) (by rw [List.length_take]; omega)
      have hil : (insAll [] (onlyIn (x.take k) y)).length ≤ 200000 := by rw [insAll_length]; simp; omega
      go_wp2_with fail
      refine (has_ref _ y u _ hy1.out (by omega)).mono ?_
      rintro e w' ⟨rfl, rfl⟩
      by_cases hu : hasB y u = true
      · rw [hu]
        have ON2 := Lib.hid (by have := ON.out; rw [if_pos hu] at this; exact this)
        clear hu ON
        go_wp2
        go_roundw
        case rel => exact ⟨k + 1, _, by omega, by go_num, rfl, by rw [ON2.out]; exact r1, r2⟩
        case measure => simp [intOf]; omega
      · have hu' : hasB y u = false := by simpa using hu
        rw [hu']
        have ON2 := Lib.hid (by have := ON.out; rw [if_neg hu] at this; exact this)
        clear hu hu' ON
        go_wp2_with fail
        refine (insert_ref _ _ u _ r1.strs (by omega)).mono ?_
        rintro e w5 ⟨v5, rfl, o5, b5⟩
        have O5 := Lib.hid (by have := o5.le hsz; rw [← insAll_snoc] at this; exact this)
        have B5 := Lib.hid (r2.trans (b5.mono hsz))
        clear o5 b5 r1 r2
        go_wp2
        go_roundw
        case rel => exact ⟨k + 1, _, by omega, by go_num, rfl, by rw [ON2.out]; exact O5.out, B5.out⟩
        case measure => simp [intOf]; omega
    · have hke : k = x.length := by omega
      subst hke
      have R1 := Lib.hid (by have := r1; rw [List.take_length] at this; exact this)
      clear r1
      have hlx : (onlyIn x y).length ≤ x.length := onlyIn_le _ _
      have RB := Lib.hid r2
      clear r2 hsz
      obtain ⟨w3, hw3⟩ : ∃ w3, w3 = wr := ⟨_, rfl⟩
      subst hw3
      go_wp2_with fail
      go_loopw [9, 7] (fun c o wr => ∃ (k : Nat) (av : Value), k ≤ y.length ∧ c = .int .i64 k ∧ av = o ∧ OwnsS wr w2.heap.size av (insAll (insAll [] (onlyIn x y)) (onlyIn (y.take k) x)) ∧ Below w2.heap.size w2 wr) (fun c _ _ => y.length - (intOf c).toNat)
      case atStart => exact ⟨0, _, Nat.zero_le _, rfl, rfl, R1.out, RB.out⟩
      case round =>
        obtain ⟨k, av, hk, rfl, rfl, r1, r2⟩ := hrel
        have hsz := r2.size
        by_cases hlt : k < y.length
        · have hkk : y[k]? = some y[k] := by simp [hlt]
          obtain ⟨b, off, rfl, hbb, hc⟩ := (sy.mono r2).get hkk
          have hy1 := Lib.hid (sx.mono r2)
          generalize y[k] = u at *
          have ON := Lib.hid (onlyIn_succ (m := x) hkk)
          have HK := Lib.hid hkk; clear hkk
          have hll : (onlyIn (y.take k) x).length ≤ y.length := Nat.le_trans (onlyIn_le _ _) (by rw [List.length_take]; omega)
          have hil : (insAll (insAll [] (onlyIn x y)) (onlyIn (y.take k) x)).length ≤ 200000 := by rw [insAll_length, insAll_length]; simp; omega
          go_wp2_with fail
          refine (has_ref _ x u _ hy1.out (by omega)).mono ?_
          rintro e w' ⟨rfl, rfl⟩
          by_cases hu : hasB x u = true
          · rw [hu]
            have ON2 := Lib.hid (by have := ON.out; rw [if_pos hu] at this; exact this)
            clear hu ON
            go_wp2
            go_roundw
            case rel => exact ⟨k + 1, _, by omega, by go_num, rfl, by rw [ON2.out]; exact r1, r2⟩
            case measure => simp [intOf]; omega
          · have hu' : hasB x u = false := by simpa using hu
            rw [hu']
            have ON2 := Lib.hid (by have := ON.out; rw [if_neg hu] at this; exact this)
            clear hu hu' ON
            go_wp2_with fail
            refine (insert_ref _ _ u _ r1.strs (by omega)).mono ?_
            rintro e w5 ⟨v5, rfl, o5, b5⟩
            have O5 := Lib.hid (by have := o5.le hsz; rw [← insAll_snoc] at this; exact this)
            have B5 := Lib.hid (r2.trans (b5.mono hsz))
            clear o5 b5 r1 r2
            go_wp2
            go_roundw
            case rel => exact ⟨k + 1, _, by omega, by go_num, rfl, by rw [ON2.out]; exact O5.out, B5.out⟩
            case measure => simp [intOf]; omega
        · have hke : k = y.length := by omega
          subst hke
          rw [List.take_length] at r1
          have hly : (onlyIn y x).length ≤ y.length := onlyIn_le _ _
          have hll : (insAll (insAll [] (onlyIn x y)) (onlyIn y x)).length ≤ 200000 := by rw [insAll_length, insAll_length]; simp; omega
          generalize insAll (insAll [] (onlyIn x y)) (onlyIn y x) = m at *
          obtain ⟨ma, mc, em, _⟩ := r1.strs.split
          subst em
          have SM := Lib.hid r1.strs
          have FIN : Hid (Below w.heap.size w wr) := hb2'.out.trans (r2.mono hb2'.out.size)
          clear r1 r2
          cases m with
          | nil =>
            go_wp2
            go_ret
            rw [HF.out]
            exact ⟨rfl, FIN.out⟩
          | cons u r =>
            obtain ⟨b, off, rfl, hbb, hc⟩ := SM.out.get (i := 0) (t := u) rfl
            simp only [Nat.add_zero] at hc
            by_cases hr : r = []
            · subst hr
              go_wp2
              go_ret
              rw [HF.out]
              exact ⟨rfl, FIN.out⟩
            · have hm2 : Hid (finS (u :: r) = (sXor ++ [40] ++ u) ++ Lib.joinTail [44] r ++ [41]) := by
                cases hrr : r with
                | nil => exact absurd hrr hr
                | cons u2 r2 => exact told_cons u (u2 :: r2) (by simp)
              have hrl : 1 ≤ r.length := by
                cases r with
                | nil => exact absurd rfl hr
                | cons _ _ => simp
              have t1 : (((r.length : Int) + 1) == 0) = false := by rw [beq_eq_false_iff_ne]; omega
              have t2 : (((r.length : Int) + 1) == 1) = false := by rw [beq_eq_false_iff_ne]; omega
              have hrm : r.length ≤ 200000 := by simp at hll; omega
              clear hr
              have hjl : u.length + (Lib.joinTail [44] r).length ≤ 1000000 := by have := HJ.out; rw [Lib.join_cons, List.length_append] at this; exact this
              have hul : u.length ≤ 1000000 := by omega
              go_wp2
              go_loop [11, 10] (fun i c => ∃ k : Nat, k ≤ r.length ∧ i = .int .i64 (k + 1 : Nat) ∧ c = st (sXor ++ [40] ++ u ++ Lib.joinTail [44] (r.take k))) (fun i _ => r.length + 1 - (intOf i).toNat)
              case atStart => exact ⟨0, Nat.zero_le _, rfl, by simp [sXor, st, Lib.joinTail]⟩
              case round =>
                obtain ⟨k, hk3, rfl, rfl⟩ := hrel
                by_cases hlt3 : k < r.length
                · have hkk : r[k]? = some r[k] := by simp [hlt3]
                  obtain ⟨_, _, e9, _, hc9⟩ := SM.out.get (i := k + 1) (t := r[k]) (by simp)
                  cases e9
                  have JT := Lib.hid (Lib.joinTail_take_succ [44] r k _ hkk)
                  have hj1 := Lib.joinTail_take_le [44] r (k + 1)
                  rw [JT.out] at hj1
                  simp only [List.length_append, List.length_cons, List.length_nil] at hj1
                  have hcur : (sXor ++ [40] ++ u ++ Lib.joinTail [44] (r.take k)).length = 4 + u.length + (Lib.joinTail [44] (r.take k)).length := by simp [sXor]; omega
                  generalize r[k] = z at *
                  clear hkk
                  generalize hcu : sXor ++ [40] ++ u ++ Lib.joinTail [44] (r.take k) = cur at *
                  have hcu2 := Lib.hid hcu; clear hcu
                  have hzl : z.length ≤ 1000000 := by omega
                  have hcl2 : cur.length ≤ 1000100 := by omega
                  go_wp2
                  go_round
                  case rel => exact ⟨k + 1, by omega, by go_num, by rw [JT.out, ← List.append_assoc, ← List.append_assoc, hcu2.out]; simp⟩
                  case measure => simp [intOf]; omega
                · have hj1 := Lib.joinTail_take_le [44] r k
                  have hcur : (sXor ++ [40] ++ u ++ Lib.joinTail [44] (r.take k)).length = 4 + u.length + (Lib.joinTail [44] (r.take k)).length := by simp [sXor]; omega
                  have hke3 : k = r.length := by omega
                  have hF2 : Hid (xorR s t = (sXor ++ [40] ++ u ++ Lib.joinTail [44] (r.take k)) ++ [41]) := by rw [HF.out, hm2.out, hke3, List.take_length]; rfl
                  generalize hcu : sXor ++ [40] ++ u ++ Lib.joinTail [44] (r.take k) = cur at *
                  have hcl2 : cur.length ≤ 1000100 := by omega
                  clear hcu
                  go_wp2
                  go_ret
                  rw [hF2.out]
                  exact ⟨rfl, FIN.out⟩
end Go.Proofs.YtmiokpcolpcbaaaGreatDoor
