/- object of attack's know. -/
import Derived.Test.YtmiokpcolpcbaaaGreatDoorPredA
import Derived.Lib.ConvBytes
namespace Go.Proofs.YtmiokpcolpcbaaaGreatDoor
open Go.RowKit

def kOf (l : List AObj) (o : Int) : Int := (l[o.toNat]?.map (·.k)).getD 0
/-- The object of which terms are pieces enough; -1: they aren't. -/
def enoughS (l : List AObj) (ts : List Str) : Int :=
  if ts = [] then -1
  else if ts.all (fun s => hd s == sPiece) then
    (if (ts.map pieceS).any (fun p => p.1 != (pieceS (ts.headD [])).1) then -1
     else if (distN (ts.map pieceS) (pieceS (ts.headD [])).1 : Int) < kOf l (pieceS (ts.headD [])).1 then -1 else (pieceS (ts.headD [])).1)
  else -1
def objectO (l : List AObj) (known : List Str) (args : List Int) : Int := match pickS known args with
  | none => -1
  | some ts => enoughS l ts

theorem numS_range (s : Str) (b : Nat) : -1 ≤ numS s b ∧ numS s b < b ∨ numS s b = -1 := by
  unfold numS
  split
  · rename_i i h
    have := List.mem_of_find?_eq_some h
    rw [List.mem_range] at this
    left; omega
  · right; rfl
theorem pieces_ok (ts : List Str) : ∀ p ∈ ts.map pieceS, i64ok p.1 ∧ i64ok p.2 := by
  intro p hp
  obtain ⟨s, _, rfl⟩ := List.mem_map.1 hp
  have h1 := numS_range ((rd s).2.getD 0 []) 20
  have h2 := numS_range ((rd s).2.getD 1 []) 255
  unfold pieceS i64ok
  simp only
  omega
theorem atoi_any (n : Nat) (hn : n < 1000) (w : World) : Calls Tryz.prog 97 #[st (Lib.decDigits n)] w fun e w' => e = .returned (.tuple #[.int .i64 n, .nilIface]) ∧ Below w.heap.size w w' := by
  have hl : (Lib.decDigits n).length ≤ 18 := by
    have : ∀ m, m < 1000 → (Lib.decDigits m).length ≤ 3 := by
      intro m hm
      by_cases h1 : m < 10
      · rw [dec_small h1]; simp
      · rw [dec_step h1]
        by_cases h2 : m / 10 < 10
        · rw [dec_small h2]; simp
        · rw [dec_step h2, dec_small (by omega)]; simp
    have := this n hn; omega
  refine (Tryz.strconv_Atoi ⟨(Lib.decDigits n).toArray⟩ n hl (by simpa using atoi_dec n) w).mono ?_
  rintro e w' ⟨h1, t, rfl⟩
  exact ⟨h1, ⟨rfl, rfl, rfl, by rw [Lib.bytesWorld_size]; omega, fun j hj => Lib.bytesWorld_at_old w _ _ j hj⟩⟩

set_option maxRecDepth 100000 in
set_option maxHeartbeats 4000000 in
theorem kobject_att (g : Nat) (ov kv sv : Value) (known : List Str) (args : List Int) (r n : Int) (l : List AObj) (w : World) (H : Stands w g ov kv sv known args n) (hO : Objs w ov l) (hL : l.length ≤ 20) (hgl : ∀ s ∈ known, Good l.length s) :
    Calls Tryz.prog 60 #[.pointer (some ⟨g, 0, none⟩), .agg #[.int .i64 r, sv, .int .i64 n]] w fun e w' => e = .returned (.int .i64 (objectO l known args)) ∧ Below w.heap.size w w' := by
  go_enter Tryz.func60, Tryz.ntmps60
  go_wp2_with fail
  have H1 := H.mono (ext_alloc w (.cells #[.int .i64 r, sv, .int .i64 n] 49))
  refine (args_att g ov kv sv known args r n (-1) _ H1.hg H1.know H1.strs H1.ints H1.al H1.kl).mono ?_
  rintro e w1 ⟨av, ts, b, rfl, o1, b1, post⟩
  have G1 := H1.glob.mono b1
  have B1 : Hid (Below w.heap.size w w1) := (Ext.trans (ext_alloc w (.cells #[.int .i64 r, sv, .int .i64 n] 49)) b1)
  have hz1 : w.heap.size ≤ w1.heap.size := B1.out.size
  have HO1 := Lib.hid (hO.mono B1.out)
  have K1 := Lib.hid (H.know.mono H.hg B1.out)
  have hg1 : g < w1.heap.size := Nat.lt_of_lt_of_le H.hg hz1
  have SM := Lib.hid o1.strs
  have hal := H.al
  have HGL := Lib.hid hgl
  clear H1 o1 b1 hO hgl
  obtain ⟨va, vc, rfl, _⟩ := SM.out.split
  have HP : Hid (b = false ∧ objectO l known args = -1 ∨ b = true ∧ objectO l known args = enoughS l ts ∧ pickS known args = some ts) := by
    unfold ArgsPost at post
    unfold objectO
    cases hp : pickS known args with
    | none => rw [hp] at post; exact .inl ⟨post.2, rfl⟩
    | some ls => rw [hp] at post; obtain ⟨rfl, rfl⟩ := post; exact .inr ⟨rfl, rfl, rfl⟩
  clear post
  cases b with
  | false =>
    have hr : objectO l known args = -1 := by rcases HP.out with h | h; exact h.2; exact absurd h.1 (by simp)
    have HR := Lib.hid hr; clear hr
    go_wp2
    go_ret
    exact ⟨by rw [HR.out]; rfl, B1.out⟩
  | true =>
    obtain ⟨hr, hp⟩ : objectO l known args = enoughS l ts ∧ pickS known args = some ts := by rcases HP.out with h | h; exact absurd h.1 (by simp); exact h.2
    have hlen : ts.length ≤ 1000 := by rw [pickS_length hp]; omega
    have HR := Lib.hid hr; clear hr HP
    have GT := Lib.hid (fun s hs => HGL.out s (pickS_mem hp s hs) : ∀ s ∈ ts, Good l.length s)
    clear hp HGL
    by_cases hne : ts = []
    · subst hne
      go_wp2
      go_ret
      exact ⟨by rw [HR.out]; rfl, B1.out⟩
    · have hpos : 0 < ts.length := List.length_pos_iff.2 hne
      have hq0 : ((ts.length : Int) == 0) = false := by rw [beq_eq_false_iff_ne]; omega
      go_wp2_with fail
      go_loopw [31, 7] (fun i o wr => ∃ (k : Nat) (pv : Value), k ≤ ts.length ∧ i = .int .i64 k ∧ pv = o ∧ (ts.take k).all (fun s => hd s == sPiece) = true ∧ OwnsP wr w1.heap.size pv ((ts.take k).map pieceS) ∧ Below w1.heap.size w1 wr) (fun i _ _ => ts.length - (intOf i).toNat)
      case atStart => exact ⟨0, _, Nat.zero_le _, rfl, rfl, rfl, OwnsP.nil _ _, (by repeat (first | exact Below.refl _ _ | refine Below.setCell ?_ (by first | (simp; done) | (simp; omega)) _ | refine Below.alloc ?_ (by first | (simp; done) | (simp; omega)) _ | refine below_drewN ?_ _ | refine Below.drew ?_))⟩
      case round =>
        obtain ⟨k, pv, hk, rfl, rfl, hn, r1, r2⟩ := hrel
        have HN := Lib.hid hn; clear hn
        have hsz := r2.size
        by_cases hlt : k < ts.length
        · have hkk : ts[k]? = some ts[k] := by simp [hlt]
          obtain ⟨b, off, rfl, hb, hc⟩ := (SM.out.mono r2).get hkk
          have gx := GT.out ts[k] (by simp)
          generalize ts[k] = x at *
          have hxl := gx.len
          have GR := G1.mono r2
          go_wp2_with fail
          refine (read_att x _ GR (by omega) gx.asc).mono ?_
          rintro e w2 ⟨tv, rfl, o2, b2⟩
          have hz2 : wr.heap.size ≤ w2.heap.size := b2.size
          have R2 := Lib.hid (r2.trans (b2.mono hsz))
          have R1 := Lib.hid (r1.mono b2)
          clear r1 r2 b2 hc
          obtain ⟨ta, tc, rfl, _⟩ := o2.strs.split
          by_cases hx : (rd x).1 = sPiece
          · obtain ⟨o, i, ho, hi, e2⟩ := gx.piece hx
            have hX := Lib.hid hx
            have E2 := Lib.hid e2
            rw [hx]
            rw [e2] at o2 ⊢
            unfold sPiece
            obtain ⟨b4, off4, rfl, hb6, f0⟩ := o2.strs.get (i := 0) (t := Lib.decDigits o) rfl
            obtain ⟨_, _, e9, _, f1⟩ := o2.strs.get (i := 1) (t := Lib.decDigits i) rfl
            cases e9
            simp only [Nat.add_zero] at f0
            clear o2 e2 hx
            go_wp2_with fail
            refine (atoi_any o (by omega) _).mono ?_
            rintro e w3 ⟨rfl, b3⟩
            have Bz : Below w2.heap.size w2 w3 := (by repeat (first | exact Below.refl _ _ | exact b3 | refine Below.trans ?_ (Below.mono b3 (by first | (simp; done) | (simp; omega) | omega)) | refine Below.setCell ?_ (by first | (simp; done) | (simp; omega) | (have hszq := (b3).size; simp at hszq ⊢; omega)) _ | refine Below.alloc ?_ (by first | (simp; done) | (simp; omega) | (have hszq := (b3).size; simp at hszq ⊢; omega)) _ | refine below_drewN ?_ _ | refine Below.drew ?_))
            have k0 : w3.cell? ⟨w2.heap.size, 1, none⟩ = some (.slice (some ⟨b4, off4, none⟩) 2 tc) := (b3.cell (p := ⟨w2.heap.size, 1, none⟩) (by simp)).trans (by simp)
            have f2 : w3.cell? ⟨b4, off4 + 1, none⟩ = some (st (Lib.decDigits i)) := (Bz.cell (p := ⟨b4, off4 + 1, none⟩) hb6).trans f1
            have hz3 : w2.heap.size < w3.heap.size := by have := b3.size; simp at this; omega
            have R3 : Hid (Below w1.heap.size w1 w3) := R2.out.trans (Bz.mono (by omega))
            have R4 : Hid (OwnsP w3 w1.heap.size pv ((ts.take k).map pieceS)) := R1.out.mono Bz
            clear b3 Bz f0 f1 R1 R2
            go_wp2_with fail
            refine (atoi_any i (by omega) _).mono ?_
            rintro e w4 ⟨rfl, b5⟩
            have hz4 : w3.heap.size ≤ w4.heap.size := b5.size
            have R5 : Below w1.heap.size w1 w4 := R3.out.trans (b5.mono (by omega))
            have R6 : OwnsP w4 w1.heap.size pv ((ts.take k).map pieceS) := R4.out.mono b5
            have hlk : ((ts.take k).map pieceS).length ≤ 1000 := by simp; omega
            have EP : Hid (pieceS x = ((o : Int), (i : Int))) := by
              have h1 : numS (Lib.decDigits o) 20 = o := numS_dec (by omega)
              have h2 : numS (Lib.decDigits i) 255 = i := numS_dec hi
              show pieceS x = _
              unfold pieceS
              rw [E2.out]
              simp only [List.getD_cons_zero, List.getD_cons_succ, h1, h2]
            clear b5 R3 R4
            go_wp2_with (at_builtin; refine wpl_app_piece rfl (.tmp 56) (.tmp 60) rfl w1.heap.size _ _ rfl (R6.mono (ext_alloc _ _)) w4.heap.size ((o : Int), (i : Int)) rfl (by simp) (by simp) (by omega) (by simp; omega) ?_; intro v2 w5 ow2 p2 p3; have bw2 : Below w1.heap.size w1 w5 := (R5.alloc (by omega) _).grown p2 (by simp; omega) (fun j hj => R6.own_ge j hj); clear p2)
            go_roundw
            case rel => exact ⟨k + 1, v2, by omega, by go_num, rfl, by rw [List.take_add_one, hkk, List.all_append, HN.out]; simp [hd, hX.out], by rw [List.take_add_one, hkk, List.map_append]; simpa [EP.out] using ow2, bw2⟩
            case measure => simp [intOf]; omega
          · have hq : ((rd x).1 == [112, 105, 101, 99, 101]) = false := by simpa [sPiece] using hx
            have hr2 : enoughS l ts = -1 := by
              have : ts.all (fun s => hd s == sPiece) = false := by
                rw [List.all_eq_false]
                exact ⟨x, List.mem_of_getElem? hkk, by simpa [hd] using hx⟩
              simp [enoughS, this]
            have HR2 := Lib.hid hr2
            clear hr2 hx
            go_wp2
            go_ret
            exact ⟨by rw [HR.out, HR2.out]; rfl, B1.out.trans (((by repeat (first | exact Below.refl _ _ | exact R2.out | refine Below.trans ?_ (Below.mono R2.out (by first | (simp; done) | (simp; omega) | omega)) | refine Below.setCell ?_ (by first | (simp; done) | (simp; omega) | (have hszq := (R2.out).size; simp at hszq ⊢; omega)) _ | refine Below.alloc ?_ (by first | (simp; done) | (simp; omega) | (have hszq := (R2.out).size; simp at hszq ⊢; omega)) _ | refine below_drewN ?_ _ | refine Below.drew ?_)) : Below w1.heap.size w1 _).mono hz1)⟩
        · have hke : k = ts.length := by omega
          subst hke
          have hn := HN.out
          rw [List.take_length] at hn r1
          obtain ⟨x, tr, ht⟩ : ∃ x tr, ts = x :: tr := List.exists_cons_of_ne_nil hne
          have gx := GT.out x (by rw [ht]; simp)
          obtain ⟨o, i, ho, hi, e2⟩ := gx.piece (by
            have := List.all_eq_true.1 hn x (by rw [ht]; simp)
            simpa using this)
          have EP : pieceS x = ((o : Int), (i : Int)) := by
            have h1 : numS (Lib.decDigits o) 20 = o := numS_dec (by omega)
            have h2 : numS (Lib.decDigits i) 255 = i := numS_dec hi
            show pieceS x = _
            unfold pieceS
            rw [e2]
            simp only [List.getD_cons_zero, List.getD_cons_succ, h1, h2]
          have EN : Hid (enoughS l ts = if (ts.map pieceS).any (fun p => p.1 != (o : Int)) then -1 else if (distN (ts.map pieceS) o : Int) < kOf l o then -1 else (o : Int)) := by
            refine Lib.hid ?_
            unfold enoughS
            rw [if_neg hne, if_pos hn, ht]
            simp only [List.headD_cons, EP]
          have hp0 : (ts.map pieceS)[0]? = some ((o : Int), (i : Int)) := by rw [ht]; simp [EP]
          have hlp : (ts.map pieceS).length = ts.length := by simp
          have PP := r1.pieces (pieces_ok ts) (by rw [hlp]; omega)
          have hps : (ts.map pieceS).length ≤ 1000 := by simp; omega
          have hps1 : 0 < (ts.map pieceS).length := by simp; omega
          clear HN hn gx e2 EP ht hlp
          generalize ts.map pieceS = ps at *
          obtain ⟨_, pa, pc, hpv, hpc⟩ := id PP
          obtain ⟨b7, off7, rfl, hb7, c1, c2, c3, c4⟩ := hpc 0 _ hp0
          subst hpv
          simp only [Nat.zero_mul, Nat.add_zero] at c1 c2
          clear hpc c3 c4
          obtain ⟨k1, k2⟩ := K1.out.mono hg1 r2
          obtain ⟨_, oa, oc, rfl, hoc⟩ := HO1.out.mono r2
          have hoo : l[o]? = some (l[o]'ho) := by simp
          obtain ⟨b8, off8, rfl, hb8, oat⟩ := hoc o _ hoo
          have hk8 := oat.k
          have hKO : kOf l o = (l[o]'ho).k := by unfold kOf; simp [hoo]
          rw [hKO] at EN
          generalize l[o]'ho = ob at *
          clear hoc oat hKO
          have hg2 : g < wr.heap.size + 1 := by omega
          have hb9 : b8 < wr.heap.size + 1 := by omega
          have hol : (o : Int) < l.length := by omega
          have B2 : Hid (Below w.heap.size w wr) := B1.out.trans (r2.mono hz1)
          have hz2 : w.heap.size ≤ wr.heap.size := B2.out.size
          have PP2 := Lib.hid PP
          clear PP r1 r2
          cases hany : ps.any (fun p => p.1 != (o : Int)) with
          | true =>
            have EN2 : Hid (enoughS l ts = -1) := by have := EN.out; rw [hany, if_pos rfl] at this; exact this
            clear EN
            go_wp2_with fail
            refine wp_region_early ((0, 0) :: (1, 0) :: (2, 2) :: (3, 0) :: (4, 0) :: (5, 1) :: (7, 0) :: (8, 0) :: (9, 0) :: (10, 1) :: (11, 1) :: (12, 0) :: (13, 0) :: (14, 1) :: (6, 2) :: (15, 0) :: (16, 0) :: []) (by kernel_rfl) (by kernel_rfl) (fun _ _ d _ _ h => by cases d <;> exact h) ?_
            have hxE := @ExtN.cell (wr.heap.size + 1)
            all_goals (apply wpE_0; exact rfl; exact rfl; exact (wanted_free rfl); intro K hK; go_big_quiet_op; first | (refine hK _ ?_; clear hK K) | (split <;> (refine hK _ ?_; clear hK K)))
            all_goals (apply wpE_0; exact rfl; exact rfl; exact (wanted_free rfl); intro K hK; go_big_quiet_op; first | (refine hK _ ?_; clear hK K) | (split <;> (refine hK _ ?_; clear hK K)))
            all_goals (apply wpE_2; exact rfl; intro K hK; go_simp; first | (refine hK _ _ (by first | exact Ext.refl _ | exact ext_alloc _ _ | exact ext_alloc_drew _ _) ?_; clear hK K) | (refine (containsf_att _ ps _ (o : Int) _ (PP2.out.mono (by exact (by repeat (first | exact Below.refl _ _ | refine Below.setCell ?_ (by first | (simp; done) | (simp; omega)) _ | refine Below.alloc ?_ (by first | (simp; done) | (simp; omega)) _ | refine below_drewN ?_ _ | refine Below.drew ?_)))) (by simp)).mono ?_; rintro e w6 ⟨rfl, c6⟩; rw [hany]; refine hK _ _ c6 ?_; clear hK K))
            all_goals (apply wpE_0; exact rfl; exact rfl; exact (wanted_free rfl); intro K hK; go_big_quiet_op; first | (refine hK _ ?_; clear hK K) | (split <;> (refine hK _ ?_; clear hK K)))
            all_goals (first | (apply wpE_no; exact rfl; exact (wanted_no rfl rfl rfl (by with_reducible (first | exact Bool.not_true | exact Bool.not_false))); (try simp only [Act.put, List.setIfInBounds_toArray, List.set_cons_zero, List.set_cons_succ])) | (apply wpE_0; exact rfl; exact rfl; exact (wanted_yes rfl rfl rfl (by with_reducible rfl)); intro K hK; go_big_quiet_op; first | (refine hK _ ?_; clear hK K) | (split <;> (refine hK _ ?_; clear hK K))) | (apply wpE_split; exact rfl; exact rfl; exact rfl; exact rfl; all_goals (intro hB; simp only [hB]; (try simp only [Bool.or_eq_true, Bool.and_eq_true, Bool.or_eq_false_iff, Bool.and_eq_false_iff, Bool.not_eq_true', Bool.not_eq_false', decide_eq_true_eq, decide_eq_false_iff_not, bne_iff_ne, beq_iff_eq] at hB); first | (exfalso; omega) | (apply wpE_no; exact rfl; exact (wanted_no rfl rfl rfl (by with_reducible (first | exact Bool.not_true | exact Bool.not_false))); (try simp only [Act.put, List.setIfInBounds_toArray, List.set_cons_zero, List.set_cons_succ])) | (apply wpE_0; exact rfl; exact rfl; exact (wanted_yes rfl rfl rfl (by with_reducible rfl)); intro K hK; go_big_quiet_op; first | (refine hK _ ?_; clear hK K) | (split <;> (refine hK _ ?_; clear hK K))))))
            all_goals (first | (apply wpE_no; exact rfl; exact (wanted_no rfl rfl rfl (by with_reducible (first | exact Bool.not_true | exact Bool.not_false))); (try simp only [Act.put, List.setIfInBounds_toArray, List.set_cons_zero, List.set_cons_succ])) | (apply wpE_1 (wr.heap.size + 1) (by first | exact Nat.le_refl _ | assumption | (simp; done) | (simp; omega) | omega); exact rfl; exact rfl; exact (wanted_yes rfl rfl rfl (by with_reducible rfl)); intro K hK; go_big_quiet_op; first | (refine hK _ ?_; clear hK K) | (split <;> (refine hK _ ?_; clear hK K))) | (apply wpE_split; exact rfl; exact rfl; exact rfl; exact rfl; all_goals (intro hB; simp only [hB]; (try simp only [Bool.or_eq_true, Bool.and_eq_true, Bool.or_eq_false_iff, Bool.and_eq_false_iff, Bool.not_eq_true', Bool.not_eq_false', decide_eq_true_eq, decide_eq_false_iff_not, bne_iff_ne, beq_iff_eq] at hB); first | (exfalso; omega) | (apply wpE_no; exact rfl; exact (wanted_no rfl rfl rfl (by with_reducible (first | exact Bool.not_true | exact Bool.not_false))); (try simp only [Act.put, List.setIfInBounds_toArray, List.set_cons_zero, List.set_cons_succ])) | (apply wpE_1 (wr.heap.size + 1) (by first | exact Nat.le_refl _ | assumption | (simp; done) | (simp; omega) | omega); exact rfl; exact rfl; exact (wanted_yes rfl rfl rfl (by with_reducible rfl)); intro K hK; go_big_quiet_op; first | (refine hK _ ?_; clear hK K) | (split <;> (refine hK _ ?_; clear hK K))))))
            all_goals (first | (apply wpE_no; exact rfl; exact (wanted_no rfl rfl rfl (by with_reducible (first | exact Bool.not_true | exact Bool.not_false))); (try simp only [Act.put, List.setIfInBounds_toArray, List.set_cons_zero, List.set_cons_succ])) | (apply wpE_0; exact rfl; exact rfl; exact (wanted_yes rfl rfl rfl (by with_reducible rfl)); intro K hK; go_big_quiet_op; first | (refine hK _ ?_; clear hK K) | (split <;> (refine hK _ ?_; clear hK K))) | (apply wpE_split; exact rfl; exact rfl; exact rfl; exact rfl; all_goals (intro hB; simp only [hB]; (try simp only [Bool.or_eq_true, Bool.and_eq_true, Bool.or_eq_false_iff, Bool.and_eq_false_iff, Bool.not_eq_true', Bool.not_eq_false', decide_eq_true_eq, decide_eq_false_iff_not, bne_iff_ne, beq_iff_eq] at hB); first | (exfalso; omega) | (apply wpE_no; exact rfl; exact (wanted_no rfl rfl rfl (by with_reducible (first | exact Bool.not_true | exact Bool.not_false))); (try simp only [Act.put, List.setIfInBounds_toArray, List.set_cons_zero, List.set_cons_succ])) | (apply wpE_0; exact rfl; exact rfl; exact (wanted_yes rfl rfl rfl (by with_reducible rfl)); intro K hK; go_big_quiet_op; first | (refine hK _ ?_; clear hK K) | (split <;> (refine hK _ ?_; clear hK K))))))
            all_goals (first | (apply wpE_no; exact rfl; exact (wanted_no rfl rfl rfl (by with_reducible (first | exact Bool.not_true | exact Bool.not_false))); (try simp only [Act.put, List.setIfInBounds_toArray, List.set_cons_zero, List.set_cons_succ])) | (apply wpE_0; exact rfl; exact rfl; exact (wanted_yes rfl rfl rfl (by with_reducible rfl)); intro K hK; go_big_quiet_op; first | (refine hK _ ?_; clear hK K) | (split <;> (refine hK _ ?_; clear hK K))) | (apply wpE_split; exact rfl; exact rfl; exact rfl; exact rfl; all_goals (intro hB; simp only [hB]; (try simp only [Bool.or_eq_true, Bool.and_eq_true, Bool.or_eq_false_iff, Bool.and_eq_false_iff, Bool.not_eq_true', Bool.not_eq_false', decide_eq_true_eq, decide_eq_false_iff_not, bne_iff_ne, beq_iff_eq] at hB); first | (exfalso; omega) | (apply wpE_no; exact rfl; exact (wanted_no rfl rfl rfl (by with_reducible (first | exact Bool.not_true | exact Bool.not_false))); (try simp only [Act.put, List.setIfInBounds_toArray, List.set_cons_zero, List.set_cons_succ])) | (apply wpE_0; exact rfl; exact rfl; exact (wanted_yes rfl rfl rfl (by with_reducible rfl)); intro K hK; go_big_quiet_op; first | (refine hK _ ?_; clear hK K) | (split <;> (refine hK _ ?_; clear hK K))))))
            all_goals (first | (apply wpE_no; exact rfl; exact (wanted_no rfl rfl rfl (by with_reducible (first | exact Bool.not_true | exact Bool.not_false))); (try simp only [Act.put, List.setIfInBounds_toArray, List.set_cons_zero, List.set_cons_succ])) | (apply wpE_0; exact rfl; exact rfl; exact (wanted_yes rfl rfl rfl (by with_reducible rfl)); intro K hK; go_big_quiet_op; first | (refine hK _ ?_; clear hK K) | (split <;> (refine hK _ ?_; clear hK K))) | (apply wpE_split; exact rfl; exact rfl; exact rfl; exact rfl; all_goals (intro hB; simp only [hB]; (try simp only [Bool.or_eq_true, Bool.and_eq_true, Bool.or_eq_false_iff, Bool.and_eq_false_iff, Bool.not_eq_true', Bool.not_eq_false', decide_eq_true_eq, decide_eq_false_iff_not, bne_iff_ne, beq_iff_eq] at hB); first | (exfalso; omega) | (apply wpE_no; exact rfl; exact (wanted_no rfl rfl rfl (by with_reducible (first | exact Bool.not_true | exact Bool.not_false))); (try simp only [Act.put, List.setIfInBounds_toArray, List.set_cons_zero, List.set_cons_succ])) | (apply wpE_0; exact rfl; exact rfl; exact (wanted_yes rfl rfl rfl (by with_reducible rfl)); intro K hK; go_big_quiet_op; first | (refine hK _ ?_; clear hK K) | (split <;> (refine hK _ ?_; clear hK K))))))
            all_goals (first | (apply wpE_no; exact rfl; exact (wanted_no rfl rfl rfl (by with_reducible (first | exact Bool.not_true | exact Bool.not_false))); (try simp only [Act.put, List.setIfInBounds_toArray, List.set_cons_zero, List.set_cons_succ])) | (apply wpE_1 (wr.heap.size + 1) (by first | exact Nat.le_refl _ | assumption | (simp; done) | (simp; omega) | omega); exact rfl; exact rfl; exact (wanted_yes rfl rfl rfl (by with_reducible rfl)); intro K hK; go_big_quiet_op; first | (refine hK _ ?_; clear hK K) | (split <;> (refine hK _ ?_; clear hK K))) | (apply wpE_split; exact rfl; exact rfl; exact rfl; exact rfl; all_goals (intro hB; simp only [hB]; (try simp only [Bool.or_eq_true, Bool.and_eq_true, Bool.or_eq_false_iff, Bool.and_eq_false_iff, Bool.not_eq_true', Bool.not_eq_false', decide_eq_true_eq, decide_eq_false_iff_not, bne_iff_ne, beq_iff_eq] at hB); first | (exfalso; omega) | (apply wpE_no; exact rfl; exact (wanted_no rfl rfl rfl (by with_reducible (first | exact Bool.not_true | exact Bool.not_false))); (try simp only [Act.put, List.setIfInBounds_toArray, List.set_cons_zero, List.set_cons_succ])) | (apply wpE_1 (wr.heap.size + 1) (by first | exact Nat.le_refl _ | assumption | (simp; done) | (simp; omega) | omega); exact rfl; exact rfl; exact (wanted_yes rfl rfl rfl (by with_reducible rfl)); intro K hK; go_big_quiet_op; first | (refine hK _ ?_; clear hK K) | (split <;> (refine hK _ ?_; clear hK K))))))
            all_goals (first | (apply wpE_no; exact rfl; exact (wanted_no rfl rfl rfl (by with_reducible (first | exact Bool.not_true | exact Bool.not_false))); (try simp only [Act.put, List.setIfInBounds_toArray, List.set_cons_zero, List.set_cons_succ])) | (apply wpE_1 (wr.heap.size + 1) (by first | exact Nat.le_refl _ | assumption | (simp; done) | (simp; omega) | omega); exact rfl; exact rfl; exact (wanted_yes rfl rfl rfl (by with_reducible rfl)); intro K hK; go_big_quiet_op; first | (refine hK _ ?_; clear hK K) | (split <;> (refine hK _ ?_; clear hK K))) | (apply wpE_split; exact rfl; exact rfl; exact rfl; exact rfl; all_goals (intro hB; simp only [hB]; (try simp only [Bool.or_eq_true, Bool.and_eq_true, Bool.or_eq_false_iff, Bool.and_eq_false_iff, Bool.not_eq_true', Bool.not_eq_false', decide_eq_true_eq, decide_eq_false_iff_not, bne_iff_ne, beq_iff_eq] at hB); first | (exfalso; omega) | (apply wpE_no; exact rfl; exact (wanted_no rfl rfl rfl (by with_reducible (first | exact Bool.not_true | exact Bool.not_false))); (try simp only [Act.put, List.setIfInBounds_toArray, List.set_cons_zero, List.set_cons_succ])) | (apply wpE_1 (wr.heap.size + 1) (by first | exact Nat.le_refl _ | assumption | (simp; done) | (simp; omega) | omega); exact rfl; exact rfl; exact (wanted_yes rfl rfl rfl (by with_reducible rfl)); intro K hK; go_big_quiet_op; first | (refine hK _ ?_; clear hK K) | (split <;> (refine hK _ ?_; clear hK K))))))
            all_goals (first | (apply wpE_no; exact rfl; exact (wanted_no rfl rfl rfl (by with_reducible (first | exact Bool.not_true | exact Bool.not_false))); (try simp only [Act.put, List.setIfInBounds_toArray, List.set_cons_zero, List.set_cons_succ])) | (apply wpE_0; exact rfl; exact rfl; exact (wanted_yes rfl rfl rfl (by with_reducible rfl)); intro K hK; go_big_quiet_op; first | (refine hK _ ?_; clear hK K) | (split <;> (refine hK _ ?_; clear hK K))) | (apply wpE_split; exact rfl; exact rfl; exact rfl; exact rfl; all_goals (intro hB; simp only [hB]; (try simp only [Bool.or_eq_true, Bool.and_eq_true, Bool.or_eq_false_iff, Bool.and_eq_false_iff, Bool.not_eq_true', Bool.not_eq_false', decide_eq_true_eq, decide_eq_false_iff_not, bne_iff_ne, beq_iff_eq] at hB); first | (exfalso; omega) | (apply wpE_no; exact rfl; exact (wanted_no rfl rfl rfl (by with_reducible (first | exact Bool.not_true | exact Bool.not_false))); (try simp only [Act.put, List.setIfInBounds_toArray, List.set_cons_zero, List.set_cons_succ])) | (apply wpE_0; exact rfl; exact rfl; exact (wanted_yes rfl rfl rfl (by with_reducible rfl)); intro K hK; go_big_quiet_op; first | (refine hK _ ?_; clear hK K) | (split <;> (refine hK _ ?_; clear hK K))))))
            all_goals (first | (apply wpE_no; exact rfl; exact (wanted_no rfl rfl rfl (by with_reducible (first | exact Bool.not_true | exact Bool.not_false))); (try simp only [Act.put, List.setIfInBounds_toArray, List.set_cons_zero, List.set_cons_succ])) | (apply wpE_0; exact rfl; exact rfl; exact (wanted_yes rfl rfl rfl (by with_reducible rfl)); intro K hK; go_big_quiet_op; first | (refine hK _ ?_; clear hK K) | (split <;> (refine hK _ ?_; clear hK K))) | (apply wpE_split; exact rfl; exact rfl; exact rfl; exact rfl; all_goals (intro hB; simp only [hB]; (try simp only [Bool.or_eq_true, Bool.and_eq_true, Bool.or_eq_false_iff, Bool.and_eq_false_iff, Bool.not_eq_true', Bool.not_eq_false', decide_eq_true_eq, decide_eq_false_iff_not, bne_iff_ne, beq_iff_eq] at hB); first | (exfalso; omega) | (apply wpE_no; exact rfl; exact (wanted_no rfl rfl rfl (by with_reducible (first | exact Bool.not_true | exact Bool.not_false))); (try simp only [Act.put, List.setIfInBounds_toArray, List.set_cons_zero, List.set_cons_succ])) | (apply wpE_0; exact rfl; exact rfl; exact (wanted_yes rfl rfl rfl (by with_reducible rfl)); intro K hK; go_big_quiet_op; first | (refine hK _ ?_; clear hK K) | (split <;> (refine hK _ ?_; clear hK K))))))
            all_goals (first | (apply wpE_no; exact rfl; exact (wanted_no rfl rfl rfl (by with_reducible (first | exact Bool.not_true | exact Bool.not_false))); (try simp only [Act.put, List.setIfInBounds_toArray, List.set_cons_zero, List.set_cons_succ])) | (apply wpE_1 (wr.heap.size + 1) (by first | exact Nat.le_refl _ | assumption | (simp; done) | (simp; omega) | omega); exact rfl; exact rfl; exact (wanted_yes rfl rfl rfl (by with_reducible rfl)); intro K hK; go_big_quiet_op; first | (refine hK _ ?_; clear hK K) | (split <;> (refine hK _ ?_; clear hK K))) | (apply wpE_split; exact rfl; exact rfl; exact rfl; exact rfl; all_goals (intro hB; simp only [hB]; (try simp only [Bool.or_eq_true, Bool.and_eq_true, Bool.or_eq_false_iff, Bool.and_eq_false_iff, Bool.not_eq_true', Bool.not_eq_false', decide_eq_true_eq, decide_eq_false_iff_not, bne_iff_ne, beq_iff_eq] at hB); first | (exfalso; omega) | (apply wpE_no; exact rfl; exact (wanted_no rfl rfl rfl (by with_reducible (first | exact Bool.not_true | exact Bool.not_false))); (try simp only [Act.put, List.setIfInBounds_toArray, List.set_cons_zero, List.set_cons_succ])) | (apply wpE_1 (wr.heap.size + 1) (by first | exact Nat.le_refl _ | assumption | (simp; done) | (simp; omega) | omega); exact rfl; exact rfl; exact (wanted_yes rfl rfl rfl (by with_reducible rfl)); intro K hK; go_big_quiet_op; first | (refine hK _ ?_; clear hK K) | (split <;> (refine hK _ ?_; clear hK K))))))
            all_goals (apply wpE_2; exact rfl; intro K hK; go_simp; first | (refine hK _ _ (by first | exact Ext.refl _ | exact ext_alloc _ _ | exact ext_alloc_drew _ _) ?_; clear hK K) | (fail; clear hK K))
            all_goals (first | (apply wpE_no; exact rfl; exact (wanted_no rfl rfl rfl (by with_reducible (first | exact Bool.not_true | exact Bool.not_false))); (try simp only [Act.put, List.setIfInBounds_toArray, List.set_cons_zero, List.set_cons_succ])) | (apply wpE_0; exact rfl; exact rfl; exact (wanted_yes rfl rfl rfl (by with_reducible rfl)); intro K hK; go_big_quiet_op; first | (refine hK _ ?_; clear hK K) | (split <;> (refine hK _ ?_; clear hK K))) | (apply wpE_split; exact rfl; exact rfl; exact rfl; exact rfl; all_goals (intro hB; simp only [hB]; (try simp only [Bool.or_eq_true, Bool.and_eq_true, Bool.or_eq_false_iff, Bool.and_eq_false_iff, Bool.not_eq_true', Bool.not_eq_false', decide_eq_true_eq, decide_eq_false_iff_not, bne_iff_ne, beq_iff_eq] at hB); first | (exfalso; omega) | (apply wpE_no; exact rfl; exact (wanted_no rfl rfl rfl (by with_reducible (first | exact Bool.not_true | exact Bool.not_false))); (try simp only [Act.put, List.setIfInBounds_toArray, List.set_cons_zero, List.set_cons_succ])) | (apply wpE_0; exact rfl; exact rfl; exact (wanted_yes rfl rfl rfl (by with_reducible rfl)); intro K hK; go_big_quiet_op; first | (refine hK _ ?_; clear hK K) | (split <;> (refine hK _ ?_; clear hK K))))))
            all_goals (apply wpE_0; exact rfl; exact rfl; exact (wanted_free rfl); intro K hK; go_big_quiet_op; first | (refine hK _ ?_; clear hK K) | (split <;> (refine hK _ ?_; clear hK K)))
            all_goals (refine wpE_nil ?_; clear hxE)
            go_wp2
            go_ret
            exact ⟨by rw [HR.out, EN2.out]; rfl, (by repeat (first | exact Below.refl _ _ | exact c6 | refine Below.trans ?_ (Below.mono c6 (by first | (simp; done) | (simp; omega) | omega)) | exact B2.out | refine Below.trans ?_ (Below.mono B2.out (by first | (simp; done) | (simp; omega) | omega)) | refine Below.setCell ?_ (by first | (simp; done) | (simp; omega) | (have hszq := (c6).size; simp at hszq ⊢; omega) | (have hszq := (B2.out).size; simp at hszq ⊢; omega)) _ | refine Below.alloc ?_ (by first | (simp; done) | (simp; omega) | (have hszq := (c6).size; simp at hszq ⊢; omega) | (have hszq := (B2.out).size; simp at hszq ⊢; omega)) _ | refine below_drewN ?_ _ | refine Below.drew ?_))⟩
          | false =>
            have EN2 : Hid (enoughS l ts = if (distN ps o : Int) < ob.k then -1 else (o : Int)) := by have := EN.out; rw [hany, if_neg (by simp)] at this; exact this
            clear EN
            go_wp2_with fail
            refine wp_region_early ((0, 0) :: (1, 0) :: (2, 2) :: (3, 0) :: (4, 0) :: (5, 1) :: (7, 0) :: (8, 0) :: (9, 0) :: (10, 1) :: (11, 1) :: (12, 0) :: (13, 0) :: (14, 1) :: (6, 2) :: (15, 0) :: (16, 0) :: []) (by kernel_rfl) (by kernel_rfl) (fun _ _ d _ _ h => by cases d <;> exact h) ?_
            have hxE := @ExtN.cell (wr.heap.size + 1)
            all_goals (apply wpE_0; exact rfl; exact rfl; exact (wanted_free rfl); intro K hK; go_big_quiet_op; first | (refine hK _ ?_; clear hK K) | (split <;> (refine hK _ ?_; clear hK K)))
            all_goals (apply wpE_0; exact rfl; exact rfl; exact (wanted_free rfl); intro K hK; go_big_quiet_op; first | (refine hK _ ?_; clear hK K) | (split <;> (refine hK _ ?_; clear hK K)))
            all_goals (apply wpE_2; exact rfl; intro K hK; go_simp; first | (refine hK _ _ (by first | exact Ext.refl _ | exact ext_alloc _ _ | exact ext_alloc_drew _ _) ?_; clear hK K) | (refine (containsf_att _ ps _ (o : Int) _ (PP2.out.mono (by exact (by repeat (first | exact Below.refl _ _ | refine Below.setCell ?_ (by first | (simp; done) | (simp; omega)) _ | refine Below.alloc ?_ (by first | (simp; done) | (simp; omega)) _ | refine below_drewN ?_ _ | refine Below.drew ?_)))) (by simp)).mono ?_; rintro e w6 ⟨rfl, c6⟩; rw [hany]; have Bz : Below wr.heap.size wr w6 := (by exact (by repeat (first | exact Below.refl _ _ | exact c6 | refine Below.trans ?_ (Below.mono c6 (by first | (simp; done) | (simp; omega) | omega)) | refine Below.setCell ?_ (by first | (simp; done) | (simp; omega) | (have hszq := (c6).size; simp at hszq ⊢; omega)) _ | refine Below.alloc ?_ (by first | (simp; done) | (simp; omega) | (have hszq := (c6).size; simp at hszq ⊢; omega)) _ | refine below_drewN ?_ _ | refine Below.drew ?_))); have k3 := (Bz.cell (p := ⟨g, 0, none⟩) (by simp; omega)).trans k1; have k4 := (Bz.cell (p := ⟨b8, off8 + o * 35 + 33, none⟩) hb8).trans hk8; have k5 : w6.cell? ⟨wr.heap.size, 0, none⟩ = some (.int .i64 (o : Int)) := (c6.cell (p := ⟨wr.heap.size, 0, none⟩) (by simp)).trans (by simp); have hz6 : wr.heap.size + 1 ≤ w6.heap.size := (by have := c6.size; simp at this; omega); refine hK _ _ c6 ?_; clear hK K))
            all_goals (apply wpE_0; exact rfl; exact rfl; exact (wanted_free rfl); intro K hK; go_big_quiet_op; first | (refine hK _ ?_; clear hK K) | (split <;> (refine hK _ ?_; clear hK K)))
            all_goals (first | (apply wpE_no; exact rfl; exact (wanted_no rfl rfl rfl (by with_reducible (first | exact Bool.not_true | exact Bool.not_false))); (try simp only [Act.put, List.setIfInBounds_toArray, List.set_cons_zero, List.set_cons_succ])) | (apply wpE_0; exact rfl; exact rfl; exact (wanted_yes rfl rfl rfl (by with_reducible rfl)); intro K hK; go_big_quiet_op; first | (refine hK _ ?_; clear hK K) | (split <;> (refine hK _ ?_; clear hK K))) | (apply wpE_split; exact rfl; exact rfl; exact rfl; exact rfl; all_goals (intro hB; simp only [hB]; (try simp only [Bool.or_eq_true, Bool.and_eq_true, Bool.or_eq_false_iff, Bool.and_eq_false_iff, Bool.not_eq_true', Bool.not_eq_false', decide_eq_true_eq, decide_eq_false_iff_not, bne_iff_ne, beq_iff_eq] at hB); first | (exfalso; omega) | (apply wpE_no; exact rfl; exact (wanted_no rfl rfl rfl (by with_reducible (first | exact Bool.not_true | exact Bool.not_false))); (try simp only [Act.put, List.setIfInBounds_toArray, List.set_cons_zero, List.set_cons_succ])) | (apply wpE_0; exact rfl; exact rfl; exact (wanted_yes rfl rfl rfl (by with_reducible rfl)); intro K hK; go_big_quiet_op; first | (refine hK _ ?_; clear hK K) | (split <;> (refine hK _ ?_; clear hK K))))))
            all_goals (first | (apply wpE_no; exact rfl; exact (wanted_no rfl rfl rfl (by with_reducible (first | exact Bool.not_true | exact Bool.not_false))); (try simp only [Act.put, List.setIfInBounds_toArray, List.set_cons_zero, List.set_cons_succ])) | (apply wpE_1 (wr.heap.size + 1) (by first | exact Nat.le_refl _ | assumption | (simp; done) | (simp; omega) | omega); exact rfl; exact rfl; exact (wanted_yes rfl rfl rfl (by with_reducible rfl)); intro K hK; go_big_quiet_op; first | (refine hK _ ?_; clear hK K) | (split <;> (refine hK _ ?_; clear hK K))) | (apply wpE_split; exact rfl; exact rfl; exact rfl; exact rfl; all_goals (intro hB; simp only [hB]; (try simp only [Bool.or_eq_true, Bool.and_eq_true, Bool.or_eq_false_iff, Bool.and_eq_false_iff, Bool.not_eq_true', Bool.not_eq_false', decide_eq_true_eq, decide_eq_false_iff_not, bne_iff_ne, beq_iff_eq] at hB); first | (exfalso; omega) | (apply wpE_no; exact rfl; exact (wanted_no rfl rfl rfl (by with_reducible (first | exact Bool.not_true | exact Bool.not_false))); (try simp only [Act.put, List.setIfInBounds_toArray, List.set_cons_zero, List.set_cons_succ])) | (apply wpE_1 (wr.heap.size + 1) (by first | exact Nat.le_refl _ | assumption | (simp; done) | (simp; omega) | omega); exact rfl; exact rfl; exact (wanted_yes rfl rfl rfl (by with_reducible rfl)); intro K hK; go_big_quiet_op; first | (refine hK _ ?_; clear hK K) | (split <;> (refine hK _ ?_; clear hK K))))))
            all_goals (first | (apply wpE_no; exact rfl; exact (wanted_no rfl rfl rfl (by with_reducible (first | exact Bool.not_true | exact Bool.not_false))); (try simp only [Act.put, List.setIfInBounds_toArray, List.set_cons_zero, List.set_cons_succ])) | (apply wpE_0; exact rfl; exact rfl; exact (wanted_yes rfl rfl rfl (by with_reducible rfl)); intro K hK; go_big_quiet_op; first | (refine hK _ ?_; clear hK K) | (split <;> (refine hK _ ?_; clear hK K))) | (apply wpE_split; exact rfl; exact rfl; exact rfl; exact rfl; all_goals (intro hB; simp only [hB]; (try simp only [Bool.or_eq_true, Bool.and_eq_true, Bool.or_eq_false_iff, Bool.and_eq_false_iff, Bool.not_eq_true', Bool.not_eq_false', decide_eq_true_eq, decide_eq_false_iff_not, bne_iff_ne, beq_iff_eq] at hB); first | (exfalso; omega) | (apply wpE_no; exact rfl; exact (wanted_no rfl rfl rfl (by with_reducible (first | exact Bool.not_true | exact Bool.not_false))); (try simp only [Act.put, List.setIfInBounds_toArray, List.set_cons_zero, List.set_cons_succ])) | (apply wpE_0; exact rfl; exact rfl; exact (wanted_yes rfl rfl rfl (by with_reducible rfl)); intro K hK; go_big_quiet_op; first | (refine hK _ ?_; clear hK K) | (split <;> (refine hK _ ?_; clear hK K))))))
            all_goals (first | (apply wpE_no; exact rfl; exact (wanted_no rfl rfl rfl (by with_reducible (first | exact Bool.not_true | exact Bool.not_false))); (try simp only [Act.put, List.setIfInBounds_toArray, List.set_cons_zero, List.set_cons_succ])) | (apply wpE_0; exact rfl; exact rfl; exact (wanted_yes rfl rfl rfl (by with_reducible rfl)); intro K hK; go_big_quiet_op; first | (refine hK _ ?_; clear hK K) | (split <;> (refine hK _ ?_; clear hK K))) | (apply wpE_split; exact rfl; exact rfl; exact rfl; exact rfl; all_goals (intro hB; simp only [hB]; (try simp only [Bool.or_eq_true, Bool.and_eq_true, Bool.or_eq_false_iff, Bool.and_eq_false_iff, Bool.not_eq_true', Bool.not_eq_false', decide_eq_true_eq, decide_eq_false_iff_not, bne_iff_ne, beq_iff_eq] at hB); first | (exfalso; omega) | (apply wpE_no; exact rfl; exact (wanted_no rfl rfl rfl (by with_reducible (first | exact Bool.not_true | exact Bool.not_false))); (try simp only [Act.put, List.setIfInBounds_toArray, List.set_cons_zero, List.set_cons_succ])) | (apply wpE_0; exact rfl; exact rfl; exact (wanted_yes rfl rfl rfl (by with_reducible rfl)); intro K hK; go_big_quiet_op; first | (refine hK _ ?_; clear hK K) | (split <;> (refine hK _ ?_; clear hK K))))))
            all_goals (first | (apply wpE_no; exact rfl; exact (wanted_no rfl rfl rfl (by with_reducible (first | exact Bool.not_true | exact Bool.not_false))); (try simp only [Act.put, List.setIfInBounds_toArray, List.set_cons_zero, List.set_cons_succ])) | (apply wpE_0; exact rfl; exact rfl; exact (wanted_yes rfl rfl rfl (by with_reducible rfl)); intro K hK; go_big_quiet_op; first | (refine hK _ ?_; clear hK K) | (split <;> (refine hK _ ?_; clear hK K))) | (apply wpE_split; exact rfl; exact rfl; exact rfl; exact rfl; all_goals (intro hB; simp only [hB]; (try simp only [Bool.or_eq_true, Bool.and_eq_true, Bool.or_eq_false_iff, Bool.and_eq_false_iff, Bool.not_eq_true', Bool.not_eq_false', decide_eq_true_eq, decide_eq_false_iff_not, bne_iff_ne, beq_iff_eq] at hB); first | (exfalso; omega) | (apply wpE_no; exact rfl; exact (wanted_no rfl rfl rfl (by with_reducible (first | exact Bool.not_true | exact Bool.not_false))); (try simp only [Act.put, List.setIfInBounds_toArray, List.set_cons_zero, List.set_cons_succ])) | (apply wpE_0; exact rfl; exact rfl; exact (wanted_yes rfl rfl rfl (by with_reducible rfl)); intro K hK; go_big_quiet_op; first | (refine hK _ ?_; clear hK K) | (split <;> (refine hK _ ?_; clear hK K))))))
            all_goals (first | (apply wpE_no; exact rfl; exact (wanted_no rfl rfl rfl (by with_reducible (first | exact Bool.not_true | exact Bool.not_false))); (try simp only [Act.put, List.setIfInBounds_toArray, List.set_cons_zero, List.set_cons_succ])) | (apply wpE_1 (wr.heap.size + 1) (by first | exact Nat.le_refl _ | assumption | (simp; done) | (simp; omega) | omega); exact rfl; exact rfl; exact (wanted_yes rfl rfl rfl (by with_reducible rfl)); intro K hK; go_big_quiet_op; first | (refine hK _ ?_; clear hK K) | (split <;> (refine hK _ ?_; clear hK K))) | (apply wpE_split; exact rfl; exact rfl; exact rfl; exact rfl; all_goals (intro hB; simp only [hB]; (try simp only [Bool.or_eq_true, Bool.and_eq_true, Bool.or_eq_false_iff, Bool.and_eq_false_iff, Bool.not_eq_true', Bool.not_eq_false', decide_eq_true_eq, decide_eq_false_iff_not, bne_iff_ne, beq_iff_eq] at hB); first | (exfalso; omega) | (apply wpE_no; exact rfl; exact (wanted_no rfl rfl rfl (by with_reducible (first | exact Bool.not_true | exact Bool.not_false))); (try simp only [Act.put, List.setIfInBounds_toArray, List.set_cons_zero, List.set_cons_succ])) | (apply wpE_1 (wr.heap.size + 1) (by first | exact Nat.le_refl _ | assumption | (simp; done) | (simp; omega) | omega); exact rfl; exact rfl; exact (wanted_yes rfl rfl rfl (by with_reducible rfl)); intro K hK; go_big_quiet_op; first | (refine hK _ ?_; clear hK K) | (split <;> (refine hK _ ?_; clear hK K))))))
            all_goals (first | (apply wpE_no; exact rfl; exact (wanted_no rfl rfl rfl (by with_reducible (first | exact Bool.not_true | exact Bool.not_false))); (try simp only [Act.put, List.setIfInBounds_toArray, List.set_cons_zero, List.set_cons_succ])) | (apply wpE_1 (wr.heap.size + 1) (by first | exact Nat.le_refl _ | assumption | (simp; done) | (simp; omega) | omega); exact rfl; exact rfl; exact (wanted_yes rfl rfl rfl (by with_reducible rfl)); intro K hK; go_big_quiet_op; first | (refine hK _ ?_; clear hK K) | (split <;> (refine hK _ ?_; clear hK K))) | (apply wpE_split; exact rfl; exact rfl; exact rfl; exact rfl; all_goals (intro hB; simp only [hB]; (try simp only [Bool.or_eq_true, Bool.and_eq_true, Bool.or_eq_false_iff, Bool.and_eq_false_iff, Bool.not_eq_true', Bool.not_eq_false', decide_eq_true_eq, decide_eq_false_iff_not, bne_iff_ne, beq_iff_eq] at hB); first | (exfalso; omega) | (apply wpE_no; exact rfl; exact (wanted_no rfl rfl rfl (by with_reducible (first | exact Bool.not_true | exact Bool.not_false))); (try simp only [Act.put, List.setIfInBounds_toArray, List.set_cons_zero, List.set_cons_succ])) | (apply wpE_1 (wr.heap.size + 1) (by first | exact Nat.le_refl _ | assumption | (simp; done) | (simp; omega) | omega); exact rfl; exact rfl; exact (wanted_yes rfl rfl rfl (by with_reducible rfl)); intro K hK; go_big_quiet_op; first | (refine hK _ ?_; clear hK K) | (split <;> (refine hK _ ?_; clear hK K))))))
            all_goals (first | (apply wpE_no; exact rfl; exact (wanted_no rfl rfl rfl (by with_reducible (first | exact Bool.not_true | exact Bool.not_false))); (try simp only [Act.put, List.setIfInBounds_toArray, List.set_cons_zero, List.set_cons_succ])) | (apply wpE_0; exact rfl; exact rfl; exact (wanted_yes rfl rfl rfl (by with_reducible rfl)); intro K hK; go_big_quiet_op; first | (refine hK _ ?_; clear hK K) | (split <;> (refine hK _ ?_; clear hK K))) | (apply wpE_split; exact rfl; exact rfl; exact rfl; exact rfl; all_goals (intro hB; simp only [hB]; (try simp only [Bool.or_eq_true, Bool.and_eq_true, Bool.or_eq_false_iff, Bool.and_eq_false_iff, Bool.not_eq_true', Bool.not_eq_false', decide_eq_true_eq, decide_eq_false_iff_not, bne_iff_ne, beq_iff_eq] at hB); first | (exfalso; omega) | (apply wpE_no; exact rfl; exact (wanted_no rfl rfl rfl (by with_reducible (first | exact Bool.not_true | exact Bool.not_false))); (try simp only [Act.put, List.setIfInBounds_toArray, List.set_cons_zero, List.set_cons_succ])) | (apply wpE_0; exact rfl; exact rfl; exact (wanted_yes rfl rfl rfl (by with_reducible rfl)); intro K hK; go_big_quiet_op; first | (refine hK _ ?_; clear hK K) | (split <;> (refine hK _ ?_; clear hK K))))))
            all_goals (first | (apply wpE_no; exact rfl; exact (wanted_no rfl rfl rfl (by with_reducible (first | exact Bool.not_true | exact Bool.not_false))); (try simp only [Act.put, List.setIfInBounds_toArray, List.set_cons_zero, List.set_cons_succ])) | (apply wpE_0; exact rfl; exact rfl; exact (wanted_yes rfl rfl rfl (by with_reducible rfl)); intro K hK; go_big_quiet_op; first | (refine hK _ ?_; clear hK K) | (split <;> (refine hK _ ?_; clear hK K))) | (apply wpE_split; exact rfl; exact rfl; exact rfl; exact rfl; all_goals (intro hB; simp only [hB]; (try simp only [Bool.or_eq_true, Bool.and_eq_true, Bool.or_eq_false_iff, Bool.and_eq_false_iff, Bool.not_eq_true', Bool.not_eq_false', decide_eq_true_eq, decide_eq_false_iff_not, bne_iff_ne, beq_iff_eq] at hB); first | (exfalso; omega) | (apply wpE_no; exact rfl; exact (wanted_no rfl rfl rfl (by with_reducible (first | exact Bool.not_true | exact Bool.not_false))); (try simp only [Act.put, List.setIfInBounds_toArray, List.set_cons_zero, List.set_cons_succ])) | (apply wpE_0; exact rfl; exact rfl; exact (wanted_yes rfl rfl rfl (by with_reducible rfl)); intro K hK; go_big_quiet_op; first | (refine hK _ ?_; clear hK K) | (split <;> (refine hK _ ?_; clear hK K))))))
            all_goals (first | (apply wpE_no; exact rfl; exact (wanted_no rfl rfl rfl (by with_reducible (first | exact Bool.not_true | exact Bool.not_false))); (try simp only [Act.put, List.setIfInBounds_toArray, List.set_cons_zero, List.set_cons_succ])) | (apply wpE_1 (wr.heap.size + 1) (by first | exact Nat.le_refl _ | assumption | (simp; done) | (simp; omega) | omega); exact rfl; exact rfl; exact (wanted_yes rfl rfl rfl (by with_reducible rfl)); intro K hK; go_big_quiet_op; first | (refine hK _ ?_; clear hK K) | (split <;> (refine hK _ ?_; clear hK K))) | (apply wpE_split; exact rfl; exact rfl; exact rfl; exact rfl; all_goals (intro hB; simp only [hB]; (try simp only [Bool.or_eq_true, Bool.and_eq_true, Bool.or_eq_false_iff, Bool.and_eq_false_iff, Bool.not_eq_true', Bool.not_eq_false', decide_eq_true_eq, decide_eq_false_iff_not, bne_iff_ne, beq_iff_eq] at hB); first | (exfalso; omega) | (apply wpE_no; exact rfl; exact (wanted_no rfl rfl rfl (by with_reducible (first | exact Bool.not_true | exact Bool.not_false))); (try simp only [Act.put, List.setIfInBounds_toArray, List.set_cons_zero, List.set_cons_succ])) | (apply wpE_1 (wr.heap.size + 1) (by first | exact Nat.le_refl _ | assumption | (simp; done) | (simp; omega) | omega); exact rfl; exact rfl; exact (wanted_yes rfl rfl rfl (by with_reducible rfl)); intro K hK; go_big_quiet_op; first | (refine hK _ ?_; clear hK K) | (split <;> (refine hK _ ?_; clear hK K))))))
            all_goals (apply wpE_2; exact rfl; intro K hK; go_simp; first | (refine hK _ _ (by first | exact Ext.refl _ | exact ext_alloc _ _ | exact ext_alloc_drew _ _) ?_; clear hK K) | (refine (distinct_att _ ps (o : Int) _ (PP2.out.mono (by assumption)) (by omega)).mono ?_; rintro e w7 ⟨rfl, c7⟩; refine hK _ _ c7 ?_; clear hK K))
            all_goals (first | (apply wpE_no; exact rfl; exact (wanted_no rfl rfl rfl (by with_reducible (first | exact Bool.not_true | exact Bool.not_false))); (try simp only [Act.put, List.setIfInBounds_toArray, List.set_cons_zero, List.set_cons_succ])) | (apply wpE_0; exact rfl; exact rfl; exact (wanted_yes rfl rfl rfl (by with_reducible rfl)); intro K hK; go_big_quiet_op; first | (refine hK _ ?_; clear hK K) | (split <;> (refine hK _ ?_; clear hK K))) | (apply wpE_split; exact rfl; exact rfl; exact rfl; exact rfl; all_goals (intro hB; simp only [hB]; (try simp only [Bool.or_eq_true, Bool.and_eq_true, Bool.or_eq_false_iff, Bool.and_eq_false_iff, Bool.not_eq_true', Bool.not_eq_false', decide_eq_true_eq, decide_eq_false_iff_not, bne_iff_ne, beq_iff_eq] at hB); first | (exfalso; omega) | (apply wpE_no; exact rfl; exact (wanted_no rfl rfl rfl (by with_reducible (first | exact Bool.not_true | exact Bool.not_false))); (try simp only [Act.put, List.setIfInBounds_toArray, List.set_cons_zero, List.set_cons_succ])) | (apply wpE_0; exact rfl; exact rfl; exact (wanted_yes rfl rfl rfl (by with_reducible rfl)); intro K hK; go_big_quiet_op; first | (refine hK _ ?_; clear hK K) | (split <;> (refine hK _ ?_; clear hK K))))))
            all_goals (apply wpE_0; exact rfl; exact rfl; exact (wanted_free rfl); intro K hK; go_big_quiet_op; first | (refine hK _ ?_; clear hK K) | (split <;> (refine hK _ ?_; clear hK K)))
            all_goals (refine wpE_nil ?_; clear hxE)
            have k6 : w7.cell? ⟨wr.heap.size, 0, none⟩ = some (.int .i64 (o : Int)) := (c7.cell (p := ⟨wr.heap.size, 0, none⟩) (by simp; omega)).trans k5
            have B7 : Hid (Below w.heap.size w w7) := Lib.hid (Below.trans (B2.out.trans (Bz.mono hz2)) (c7.mono (by omega)))
            clear c6 c7 Bz k3 k4 k5
            by_cases hlt3 : (distN ps o : Int) < ob.k
            · have EN3 : Hid (enoughS l ts = -1) := by have := EN2.out; rw [if_pos hlt3] at this; exact this
              clear EN2
              go_wp2
              go_ret
              exact ⟨by rw [HR.out, EN3.out]; rfl, B7.out⟩
            · have EN3 : Hid (enoughS l ts = (o : Int)) := by have := EN2.out; rw [if_neg hlt3] at this; exact this
              clear EN2
              go_wp2
              go_ret
              exact ⟨by rw [HR.out, EN3.out]; rfl, B7.out⟩
end Go.Proofs.YtmiokpcolpcbaaaGreatDoor
