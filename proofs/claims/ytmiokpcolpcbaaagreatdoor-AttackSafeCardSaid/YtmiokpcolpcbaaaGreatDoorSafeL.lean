/- AttackSafe: its walk. -/
import Derived.Test.YtmiokpcolpcbaaaGreatDoorWakesL
import Derived.Test.YtmiokpcolpcbaaaGreatDoorSafeS
import Derived.Test.YtmiokpcolpcbaaaGreatDoorAmongL
import Derived.Test.YtmiokpcolpcbaaaGreatDoorReadR
import Derived.Test.YtmiokpcolpcbaaaGreatDoorLongR
import Derived.Test.YtmiokpcolpcbaaaGreatDoorDist
namespace Go.Proofs.YtmiokpcolpcbaaaGreatDoor
open Go.RowKit

theorem run_err {l : List AObj} : ∀ {steps : List AStep} {known : List Str} {c : Int}, runS l steps known = .error c → c ≠ 0
  | [], known, c, h => by simp only [runS] at h; cases h
  | st :: r, known, c, h => by
    simp only [runS] at h
    cases hx : stepO l known st with
    | none => rw [hx] at h; cases h; decide
    | some x =>
      rw [hx] at h
      dsimp only at h
      split at h
      · cases h; decide
      · exact run_err h
theorem derive_err {l : List AObj} {given : List (Int × Int)} {steps : List AStep} {c : Int} (h : deriveS l given steps = .error c) : c ≠ 0 := by
  unfold deriveS at h
  split at h
  · cases h; decide
  split at h
  · cases h; decide
  split at h
  · cases h; decide
  · exact run_err h
theorem run_len {l : List AObj} : ∀ {steps : List AStep} {known out : List Str}, (∀ s ∈ known, s.length ≤ 4000) → runS l steps known = .ok out → ∀ s ∈ out, s.length ≤ 4000
  | [], known, out, hk, h => by simp only [runS] at h; cases h; exact hk
  | st :: r, known, out, hk, h => by
    simp only [runS] at h
    cases hx : stepO l known st with
    | none => rw [hx] at h; cases h
    | some x =>
      rw [hx] at h
      dsimp only at h
      split at h
      · cases h
      · refine run_len (fun s hs => ?_) h
        rcases List.mem_append.1 hs with hs | hs
        · exact hk s hs
        · rw [List.mem_singleton] at hs; subst hs; omega
theorem derive_len {l : List AObj} {given : List (Int × Int)} {steps : List AStep} {known : List Str} (h : deriveS l given steps = .ok known) : ∀ s ∈ known, s.length ≤ 4000 := by
  obtain ⟨h1, h2, _, h4⟩ := derive_ok h
  obtain ⟨hn, hL⟩ := rightL_n h1
  refine run_len (fun s hs => ?_) h4
  obtain ⟨p, hp, rfl⟩ := List.mem_map.1 hs
  have := pieceT_len hn hL (List.all_eq_true.1 h2 p hp)
  omega
theorem short_bounds {l : List AObj} {g : List (Int × Int)} {s : List AStep} (h : shortB l g s = true) : l.length ≤ 8 ∧ g.length ≤ 40 ∧ s.length ≤ 60 ∧ ∀ x ∈ s, x.args.length ≤ 1000 := by
  unfold shortB at h
  simp only [Bool.and_eq_true, decide_eq_true_eq, List.all_eq_true] at h
  obtain ⟨⟨⟨⟨h1, h2⟩, h3⟩, h4⟩, h5⟩ := h
  refine ⟨h1, h2, h3, fun x hx => ?_⟩
  have := h5 x hx
  unfold shortS at this
  simp at this
  omega

theorem Strs.take {w : World} {a : Option Addr} {n cap m : Nat} {l : List Str} (h : Strs w (.slice a n cap) l) (hm : m ≤ l.length) : Strs w (.slice a m cap) (l.take m) := by
  obtain ⟨h0, a', cap', h1, hcap, h2⟩ := h
  cases h1
  have hl : (l.take m).length = m := by simp; omega
  refine ⟨by simp, a, cap, by rw [hl], by omega, fun i x hx => h2 i x ?_⟩
  rw [List.getElem?_map, Option.map_eq_some_iff] at hx
  obtain ⟨t, ht, rfl⟩ := hx
  rw [List.getElem?_take] at ht
  split at ht
  · rw [List.getElem?_map, ht]; rfl
  · cases ht

set_option maxRecDepth 100000 in
set_option maxHeartbeats 4000000 in
theorem safe_law (lv gv sv : Value) (l : List AObj) (given : List (Int × Int)) (steps : List AStep) (w : World) (hO : Objs w lv l) (hG : Pieces w gv given) (hS : Steps w sv steps) (hg : Glob w) :
    Calls Tryz.prog 4 #[lv, gv, sv] w fun e w' => e = .returned (.bool true) ∧ Below w.heap.size w w' := by
  have hcat := bcat
  go_enter Tryz.func4, Tryz.ntmps4
  go_wp2_with fail
  refine (wakes_law w hg).mono ?_
  rintro e w1 ⟨rfl, b1⟩
  have hz1 := b1.size
  have B1 := Lib.hid b1
  have hO1 := hO.mono b1
  have hG1 := hG.mono b1
  have hS1 := hS.mono b1
  have hg1 := hg.mono b1
  clear hO hG hS hg b1
  go_wp2_with fail
  refine (long_ref lv gv sv l given steps _ hO1 hG1 hS1).mono ?_
  rintro e w2 ⟨rfl, n2, rfl⟩
  have b2 := below_drewN' w1 n2
  cases hsh : shortB l given steps with
  | false =>
    go_wp2_with fail
    go_ret
    exact ⟨rfl, B1.out.trans (b2.mono hz1)⟩
  | true =>
    obtain ⟨hl8, hg40, hs60, ha20⟩ := short_bounds hsh
    have hO2 := hO1.mono b2
    have hG2 := hG1.mono b2
    have hS2 := hS1.mono b2
    have hg2 := hg1.mono b2
    have B2 : Hid (Below w.heap.size w (w1.drewN n2)) := B1.out.trans (b2.mono hz1)
    have hz2 : w.heap.size ≤ (w1.drewN n2).heap.size := hz1
    clear hO1 hG1 hS1 hg1 b2 hsh B1 hz1
    have H2 := Lib.hid hO2
    have H3 := Lib.hid hG2
    have H4 := Lib.hid hS2
    go_wp2_with fail
    refine (derive_att lv gv sv l given steps _ H2.out H3.out H4.out hg2 (by omega) (by omega) ha20).mono ?_
    rintro e w3 ⟨b3, hd⟩
    generalize w1.drewN n2 = w2 at *
    have HO := Lib.hid (H2.out.mono b3)
    have HG := Lib.hid (H3.out.mono b3)
    have hz3 := b3.size
    have B3 : Hid (Below w.heap.size w w3) := B2.out.trans (b3.mono hz2)
    clear H2 H3 H4 hO2 hG2 hS2 hg2 B2 b3 ha20
    cases hr : deriveS l given steps with
    | error c =>
      rw [hr] at hd
      dsimp only at hd
      subst hd
      have hc := derive_err hr
      have hc1 : (c != 0) = true := by simpa using hc
      clear hr
      go_wp2_with fail
      go_ret
      exact ⟨rfl, B3.out⟩
    | ok known =>
      rw [hr] at hd
      dsimp only at hd
      obtain ⟨av, rfl, o3⟩ := hd
      have KL := derive_take hr
      have hkn : known.length ≤ 100 := by omega
      have HR := Lib.hid hr
      have HK := Lib.hid o3.strs
      clear hr KL o3
      obtain ⟨ka, kc, rfl, hkc⟩ := HK.out.split
      obtain ⟨hml, oa, oc, rfl, _⟩ := HO.out
      obtain ⟨_, ga, gc, rfl, _⟩ := HG.out
      have hz4 : w.heap.size ≤ w3.heap.size := B3.out.size
      go_wp2_with fail
      go_loopw [34] (fun i wr => ∃ k : Nat, k ≤ l.length ∧ i = .int .i64 k ∧ Below w3.heap.size w3 wr) (fun i _ => l.length - (intOf i).toNat)
      case atStart => exact ⟨0, Nat.zero_le _, rfl, Below.refl _ _⟩
      case round =>
        obtain ⟨k, hk, rfl, r1⟩ := hrel
        have hzr := r1.size
        by_cases hlt : k < l.length
        · obtain ⟨_, oa', oc', e, hOo⟩ := HO.out.mono r1
          cases e
          obtain ⟨b, off, rfl, hb, oat⟩ := hOo k l[k] (by simp [hlt])
          have hkk : l[k]? = some l[k] := by simp [hlt]
          have hko : kOf l k = (l[k]).k := by unfold kOf; simp [hkk]
          have hck := oat.k
          generalize l[k] = ob at *
          clear hOo oat hkk
          have HKO := Lib.hid hko
          have hp := HG.out.mono r1
          clear hko
          go_wp2_with fail
          refine wp_region_early ((0, 0) :: (1, 0) :: (3, 0) :: (4, 0) :: (5, 0) :: (6, 0) :: (7, 1) :: (2, 2) :: (8, 0) :: []) (by kernel_rfl) (by kernel_rfl) (fun _ _ d _ _ h => by cases d <;> exact h) ?_
          have hxE := @ExtN.cell (wr.heap.size)
          all_goals (apply wpE_0; exact rfl; exact rfl; exact (wanted_free rfl); intro K hK; go_big_quiet_op; first | (refine hK _ ?_; clear hK K) | (split <;> (refine hK _ ?_; clear hK K)))
          all_goals (apply wpE_0; exact rfl; exact rfl; exact (wanted_free rfl); intro K hK; go_big_quiet_op; first | (refine hK _ ?_; clear hK K) | (split <;> (refine hK _ ?_; clear hK K)))
          all_goals (apply wpE_0; exact rfl; exact rfl; exact (wanted_free rfl); intro K hK; go_big_quiet_op; first | (refine hK _ ?_; clear hK K) | (split <;> (refine hK _ ?_; clear hK K)))
          all_goals (apply wpE_0; exact rfl; exact rfl; exact (wanted_free rfl); intro K hK; go_big_quiet_op; first | (refine hK _ ?_; clear hK K) | (split <;> (refine hK _ ?_; clear hK K)))
          all_goals (apply wpE_0; exact rfl; exact rfl; exact (wanted_free rfl); intro K hK; go_big_quiet_op; first | (refine hK _ ?_; clear hK K) | (split <;> (refine hK _ ?_; clear hK K)))
          all_goals (apply wpE_0; exact rfl; exact rfl; exact (wanted_free rfl); intro K hK; go_big_quiet_op; first | (refine hK _ ?_; clear hK K) | (split <;> (refine hK _ ?_; clear hK K)))
          all_goals (apply wpE_1 (wr.heap.size) (by first | exact Nat.le_refl _ | assumption | (simp; done) | (simp; omega) | omega); exact rfl; exact rfl; exact (wanted_free rfl); intro K hK; go_big_quiet_op; first | (refine hK _ ?_; clear hK K) | (split <;> (refine hK _ ?_; clear hK K)))
          all_goals (apply wpE_2; exact rfl; intro K hK; go_simp; first | (refine hK _ _ (by first | exact Ext.refl _ | exact ext_alloc _ _ | exact ext_alloc_drew _ _) ?_; clear hK K) | (refine (distinct_att _ given _ _ (hp.mono (by exact (by repeat (first | exact Below.refl _ _ | refine Below.setCell ?_ (by first | (simp; done) | (simp; omega)) _ | refine Below.alloc ?_ (by first | (simp; done) | (simp; omega)) _ | refine below_drewN ?_ _ | refine Below.drew ?_)))) (by omega)).mono ?_; rintro e w4 ⟨rfl, c4⟩; have Bz : Below wr.heap.size wr w4 := (by exact (by repeat (first | exact Below.refl _ _ | exact c4 | refine Below.trans ?_ (Below.mono c4 (by first | (simp; done) | (simp; omega) | omega)) | refine Below.setCell ?_ (by first | (simp; done) | (simp; omega) | (have hszq := (c4).size; simp at hszq ⊢; omega)) _ | refine Below.alloc ?_ (by first | (simp; done) | (simp; omega) | (have hszq := (c4).size; simp at hszq ⊢; omega)) _ | refine below_drewN ?_ _ | refine Below.drew ?_))); have hck4 := (Bz.cell (p := ⟨b, off + k * 35 + 33, none⟩) hb).trans hck; refine hK _ _ c4 ?_; clear hK K))
          all_goals (apply wpE_0; exact rfl; exact rfl; exact (wanted_free rfl); intro K hK; go_big_quiet_op; first | (refine hK _ ?_; clear hK K) | (split <;> (refine hK _ ?_; clear hK K)))
          all_goals (refine wpE_nil ?_; clear hxE)
          have B4 : Hid (Below w3.heap.size w3 w4) := Lib.hid (r1.trans (Bz.mono hzr))
          have hz5 : w3.heap.size ≤ w4.heap.size := B4.out.size
          clear c4 Bz hck hck4 hp r1 hb hzr
          by_cases hge : ob.k ≤ (distN given k : Int)
          · clear HKO
            go_wp2_with fail
            go_roundw
            case rel => exact ⟨k + 1, by omega, by go_num, B4.out⟩
            case measure => simp [intOf]; omega
          · have HC := Lib.hid (derive_clean HR.out (o := k) (by rw [HKO.out]; omega))
            have hk8 : (k : Int) < 8 := by omega
            clear HKO
            go_wp2_with fail
            rw [conv_one 35 9 5 rfl rfl rfl w4 _ (UInt8.ofNat (48 + k)) (digit_int k (by omega))]
            rw [← dec_small (show k < 10 by omega)]
            have hdl : (Lib.decDigits k).length ≤ 4 := dec_len 3 k (by omega)
            generalize hdk : Lib.decDigits k = dk at *
            have HD := Lib.hid hdk
            clear hdk
            go_wp2_with fail
            obtain ⟨wo, rfl⟩ : ∃ wo : World, wo = wr := ⟨_, rfl⟩
            go_loopw [53] (fun i wr => ∃ j : Nat, j ≤ known.length ∧ i = .int .i64 j ∧ Below w3.heap.size w3 wr) (fun i _ => known.length - (intOf i).toNat)
            case atStart => exact ⟨0, Nat.zero_le _, rfl, (by repeat (first | exact Below.refl _ _ | exact B4.out | refine Below.trans ?_ (Below.mono B4.out (by first | (simp; done) | (simp; omega) | omega)) | refine Below.setCell ?_ (by first | (simp; done) | (simp; omega) | (have hszq := (B4.out).size; simp at hszq ⊢; omega)) _ | refine Below.alloc ?_ (by first | (simp; done) | (simp; omega) | (have hszq := (B4.out).size; simp at hszq ⊢; omega)) _ | refine below_drewN ?_ _ | refine Below.drew ?_))⟩
            case round =>
              obtain ⟨j, hj, rfl, r2⟩ := hrel
              have hzr := r2.size
              by_cases hlt2 : j < known.length
              · have hjj : known[j]? = some known[j] := by simp [hlt2]
                have hHK := HK.out.mono r2
                obtain ⟨b5, off5, rfl, hb5, hc5⟩ := hHK.get hjj
                have HCj := Lib.hid (HC.out known[j] (by simp))
                generalize known[j] = s at *
                have HS := Lib.hid hHK
                have HJ := Lib.hid hjj
                clear hHK hjj
                have n1 : (s == 107 :: 101 :: 121 :: 40 :: (dk ++ [41])) = false := by
                  rw [beq_eq_false_iff_ne]
                  have := HCj.out.not_key
                  rw [HD.out] at this
                  simpa [toldS, sKey, Lib.join, Lib.joinTail] using this
                have n2 : (s == 105 :: 110 :: 115 :: 105 :: 100 :: 101 :: 40 :: (dk ++ [41])) = false := by
                  rw [beq_eq_false_iff_ne]
                  have := HCj.out.not_inside
                  rw [HD.out] at this
                  simpa [toldS, sInside, Lib.join, Lib.joinTail] using this
                have n3 : (s == 104 :: 105 :: 100 :: 100 :: 101 :: 110 :: 40 :: (dk ++ [41])) = false := by
                  rw [beq_eq_false_iff_ne]
                  have := HCj.out.not_hidden
                  rw [HD.out] at this
                  simpa [toldS, sHidden, Lib.join, Lib.joinTail] using this
                have hsl : s.length ≤ 4000 := derive_len HR.out s (List.mem_of_getElem? HJ.out)
                go_wp2_with fail
                refine (read_ref s _ (by omega)).mono ?_
                rintro e w6 ⟨tv, rfl, o6, c6⟩
                have R6 : Hid (Below w3.heap.size w3 w6) := Lib.hid (r2.trans (c6.mono hzr))
                have H6 := Lib.hid (HS.out.mono c6)
                have hz6 := c6.size
                obtain ⟨ta, tc, rfl, _⟩ := o6.strs.split
                clear HS n1 n2 n3 hcat c6 r2
                by_cases hx : hd s = sPiece
                · obtain ⟨p, i, es, e6, hpl, _, hgiv⟩ := HCj.out.of_piece hx
                  clear es
                  rw [e6] at o6 ⊢
                  unfold sPiece
                  obtain ⟨b7, off7, rfl, hb7, f0⟩ := o6.strs.get (i := 0) (t := Lib.decDigits p) rfl
                  simp only [Nat.add_zero] at f0
                  have HGV := Lib.hid hgiv
                  clear o6 e6 hx hgiv
                  by_cases hpk : p = k
                  · have heq : (Lib.decDigits p == dk) = true := by rw [hpk, HD.out]; simp
                    have hmem : hasB (known.take given.length) s = true := by rw [hasB_iff, (derive_take HR.out).1]; exact HGV.out hpk
                    have hgk : given.length ≤ known.length := by have := (derive_take HR.out).2; omega
                    have hgk2 : given.length ≤ kc := by omega
                    have HM := Lib.hid hmem
                    have HT := Lib.hid (Strs.take H6.out hgk)
                    clear hmem HGV hpk
                    go_wp2_with fail
                    refine (among_law _ (known.take given.length) s _ (HT.out.mono (by exact (by repeat (first | exact Below.refl _ _ | refine Below.setCell ?_ (by first | (simp; done) | (simp; omega)) _ | refine Below.alloc ?_ (by first | (simp; done) | (simp; omega)) _ | refine below_drewN ?_ _ | refine Below.drew ?_)))) (by simp; omega)).mono ?_
                    rintro e w8 ⟨rfl, rfl⟩
                    rw [HM.out]
                    go_wp2_with fail
                    go_roundw
                    case rel => exact ⟨j + 1, by omega, by go_num, (by repeat (first | exact Below.refl _ _ | exact R6.out | refine Below.trans ?_ (Below.mono R6.out (by first | (simp; done) | (simp; omega) | omega)) | refine Below.setCell ?_ (by first | (simp; done) | (simp; omega) | (have hszq := (R6.out).size; simp at hszq ⊢; omega)) _ | refine Below.alloc ?_ (by first | (simp; done) | (simp; omega) | (have hszq := (R6.out).size; simp at hszq ⊢; omega)) _ | refine below_drewN ?_ _ | refine Below.drew ?_))⟩
                    case measure => simp [intOf]; omega
                  · have hne : (Lib.decDigits p == dk) = false := by
                      rw [beq_eq_false_iff_ne, ← HD.out]
                      exact fun e => hpk (dec_inj e)
                    go_wp2_with fail
                    go_roundw
                    case rel => exact ⟨j + 1, by omega, by go_num, (by repeat (first | exact Below.refl _ _ | exact R6.out | refine Below.trans ?_ (Below.mono R6.out (by first | (simp; done) | (simp; omega) | omega)) | refine Below.setCell ?_ (by first | (simp; done) | (simp; omega) | (have hszq := (R6.out).size; simp at hszq ⊢; omega)) _ | refine Below.alloc ?_ (by first | (simp; done) | (simp; omega) | (have hszq := (R6.out).size; simp at hszq ⊢; omega)) _ | refine below_drewN ?_ _ | refine Below.drew ?_))⟩
                    case measure => simp [intOf]; omega
                · have hq : ((rd s).1 == [112, 105, 101, 99, 101]) = false := by simpa [sPiece, hd] using hx
                  clear hx
                  go_wp2_with fail
                  go_roundw
                  case rel => exact ⟨j + 1, by omega, by go_num, (by repeat (first | exact Below.refl _ _ | exact R6.out | refine Below.trans ?_ (Below.mono R6.out (by first | (simp; done) | (simp; omega) | omega)) | refine Below.setCell ?_ (by first | (simp; done) | (simp; omega) | (have hszq := (R6.out).size; simp at hszq ⊢; omega)) _ | refine Below.alloc ?_ (by first | (simp; done) | (simp; omega) | (have hszq := (R6.out).size; simp at hszq ⊢; omega)) _ | refine below_drewN ?_ _ | refine Below.drew ?_))⟩
                  case measure => simp [intOf]; omega
              · go_wp2_with fail
                go_roundw
                case rel => exact ⟨k + 1, by omega, by go_num, r2⟩
                case measure => simp [intOf]; omega
        · go_wp2_with fail
          go_ret
          exact ⟨rfl, B3.out.trans (r1.mono hz4)⟩
end Go.Proofs.YtmiokpcolpcbaaaGreatDoor
