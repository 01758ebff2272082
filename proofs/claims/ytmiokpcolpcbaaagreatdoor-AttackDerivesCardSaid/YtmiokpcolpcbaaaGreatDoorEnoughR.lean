/- enough of the reference. -/
import Derived.Test.YtmiokpcolpcbaaaGreatDoorObjA
import Derived.Test.YtmiokpcolpcbaaaGreatDoorDrawT
import Derived.Test.YtmiokpcolpcbaaaGreatDoorReadR
namespace Go.Proofs.YtmiokpcolpcbaaaGreatDoor
open Go.RowKit

theorem enough_other {l : List AObj} {ts : List Str} {x : Str} (hx : x ∈ ts) (h : hd x ≠ sPiece) : enoughS l ts = -1 := by
  unfold enoughS
  split
  · rfl
  · rw [if_neg]
    intro ha
    have := List.all_eq_true.1 ha x hx
    exact h (by simpa using this)
theorem enough_mix {l : List AObj} {ts : List Str} {x : Str} (hx : x ∈ ts) (h : (pieceS x).1 ≠ (pieceS (ts.headD [])).1) : enoughS l ts = -1 := by
  unfold enoughS
  split
  · rfl
  · split
    · rw [if_pos]
      rw [List.any_eq_true]
      exact ⟨pieceS x, List.mem_map_of_mem hx, by simpa using h⟩
    · rfl
theorem enough_all {l : List AObj} {ts : List Str} {o : Int} (hne : ts ≠ []) (hp : ts.all (fun s => hd s == sPiece) = true) (ho : ∀ s ∈ ts, (pieceS s).1 = o) :
    enoughS l ts = if (distN (ts.map pieceS) o : Int) < kOf l o then -1 else o := by
  obtain ⟨x, r, rfl⟩ := List.exists_cons_of_ne_nil hne
  have hh : (pieceS ((x :: r).headD [])).1 = o := ho x (by simp)
  unfold enoughS
  rw [if_neg hne, if_pos hp, hh, if_neg]
  rw [List.any_eq_true]
  rintro ⟨p, h1, h2⟩
  obtain ⟨s, hs, rfl⟩ := List.mem_map.1 h1
  rw [ho s hs] at h2
  simp at h2

theorem enough_lt {l : List AObj} {ts : List Str} (hL : l.length ≤ 20) (hgl : ∀ s ∈ ts, Good l.length s) : enoughS l ts = -1 ∨ ∃ o : Nat, enoughS l ts = o ∧ o < l.length := by
  unfold enoughS
  by_cases h0 : ts = []
  · rw [if_pos h0]; exact .inl rfl
  · rw [if_neg h0]
    by_cases h1 : ts.all (fun s => hd s == sPiece) = true
    · rw [if_pos h1]
      split
      · exact .inl rfl
      · split
        · exact .inl rfl
        · obtain ⟨x, tr, rfl⟩ : ∃ x tr, ts = x :: tr := List.exists_cons_of_ne_nil h0
          obtain ⟨o, i, ho, hi, e2⟩ := (hgl x (by simp)).piece (by have := List.all_eq_true.1 h1 x (by simp); simpa using this)
          refine .inr ⟨o, ?_, ho⟩
          show (pieceS x).1 = _
          unfold pieceS
          rw [e2]
          exact numS_dec (by omega)
    · rw [if_neg h1]; exact .inl rfl

theorem number_20 (o : Nat) (ho : o < 20) (w : World) : Calls Tryz.prog 87 #[st (Lib.decDigits o), .int .i64 20] w fun e w' => e = .returned (.int .i64 o) ∧ Below w.heap.size w w' := by
  have := number_ref (Lib.decDigits o) 20 (by decide) w
  rw [numS_dec ho] at this
  exact this
theorem number_255 (o : Nat) (ho : o < 255) (w : World) : Calls Tryz.prog 87 #[st (Lib.decDigits o), .int .i64 255] w fun e w' => e = .returned (.int .i64 o) ∧ Below w.heap.size w w' := by
  have := number_ref (Lib.decDigits o) 255 (by decide) w
  rw [numS_dec ho] at this
  exact this

theorem exit_named {E : Exit → Act → World → Prop} {x : Exit} {a : Act} {w : World} (F : World → Prop) (h : F w) (k : ∀ w', F w' → E x a w') : E x a w := k w h

/-- What the loop of enough stands on. -/
structure EnRel (l : List AObj) (ts : List Str) (w wr : World) (k : Nat) (ov : Int) (gv : Value) : Prop where
  hp : (ts.take k).all (fun s => hd s == sPiece) = true
  ho : ∀ s ∈ ts.take k, (pieceS s).1 = ov
  h0 : k = 0 → ov = -1
  h1 : 0 < k → 0 ≤ ov ∧ ov < l.length
  own : OwnsP wr w.heap.size gv ((ts.take k).map pieceS)
  bel : Below w.heap.size w wr
  ok : -1 ≤ ov ∧ ov < 100

theorem EnRel.next {l : List AObj} {ts : List Str} {w wr w7 : World} {k o i : Nat} {ov : Int} {gv v2 : Value} {x : Str} (h : EnRel l ts w wr k ov gv) (hk : ts[k]? = some x) (hx : hd x = sPiece) (ep : pieceS x = ((o : Int), (i : Int)))
    (ho : o < l.length) (hL : l.length ≤ 20) (hov : k = 0 ∨ ov = o) (own : OwnsP w7 w.heap.size v2 ((ts.take k).map pieceS ++ [((o : Int), (i : Int))])) (bel : Below w.heap.size w w7) : EnRel l ts w w7 (k + 1) o v2 := by
  refine ⟨?_, ?_, fun h => absurd h (by omega), fun _ => ⟨by omega, by omega⟩, ?_, bel, by omega, by omega⟩
  · rw [List.take_add_one, hk, List.all_append, h.hp]; simp [hx]
  · intro s hs
    rw [List.take_add_one, hk] at hs
    rcases List.mem_append.1 hs with hs | hs
    · have := h.ho s hs
      rcases hov with rfl | rfl
      · simp at hs
      · exact this
    · simp at hs; subst hs; rw [ep]
  · rw [List.take_add_one, hk, List.map_append]
    simpa [ep] using own
theorem EnRel.mix {l : List AObj} {ts : List Str} {w wr : World} {k o i : Nat} {ov : Int} {gv : Value} {x : Str} (h : EnRel l ts w wr k ov gv) (hk : ts[k]? = some x) (ep : pieceS x = ((o : Int), (i : Int))) (h0 : 0 < k) (hne : ov ≠ o) : enoughS l ts = -1 := by
  refine enough_mix (List.mem_of_getElem? hk) ?_
  have hlt := (List.getElem?_eq_some_iff.1 hk).1
  obtain ⟨y, r, rfl⟩ := List.exists_cons_of_ne_nil (show ts ≠ [] by rintro rfl; simp at hlt)
  have := h.ho y (by obtain ⟨m, rfl⟩ : ∃ m, k = m + 1 := ⟨k - 1, by omega⟩; simp)
  rw [ep]
  show (o : Int) ≠ (pieceS y).1
  rw [this]
  exact fun e => hne e.symm

set_option maxRecDepth 100000 in
set_option maxHeartbeats 4000000 in
theorem enough_ref (lv tv : Value) (l : List AObj) (ts : List Str) (w : World) (hO : Objs w lv l) (hT : Strs w tv ts) (hL : l.length ≤ 20) (hlen : ts.length ≤ 1000) (hgl : ∀ s ∈ ts, Good l.length s) :
    Calls Tryz.prog 65 #[lv, tv] w fun e w' => e = .returned (.int .i64 (enoughS l ts)) ∧ Below w.heap.size w w' := by
  obtain ⟨ta, tc, rfl, htc⟩ := hT.split
  have HGL := Lib.hid hgl
  have HO := Lib.hid hO
  have HT := Lib.hid hT
  clear hgl hO hT
  go_enter Tryz.func65, Tryz.ntmps65
  go_wp2_with fail
  go_loopw [7, 5, 6] (fun i o pv wr => ∃ (k : Nat) (ov : Int) (gv : Value), k ≤ ts.length ∧ i = .int .i64 k ∧ o = .int .i64 ov ∧ gv = pv ∧ EnRel l ts w wr k ov gv) (fun i _ _ _ => ts.length - (intOf i).toNat)
  case atStart => exact ⟨0, -1, _, Nat.zero_le _, rfl, rfl, rfl, ⟨rfl, by simp, fun _ => rfl, fun h => absurd h (by omega), OwnsP.nil _ _, Below.refl _ _, by omega, by omega⟩⟩
  case round =>
    obtain ⟨k, ov, gv, hk, rfl, rfl, rfl, hR⟩ := hrel
    have hzr := hR.bel.size
    have HRR := Lib.hid hR
    have hov1 := hR.ok.1
    have hov2 := hR.ok.2
    by_cases hlt : k < ts.length
    · have hkk : ts[k]? = some ts[k] := by simp [hlt]
      obtain ⟨b, off, rfl, hb, hc⟩ := (HT.out.mono hR.bel).get hkk
      have gx := HGL.out ts[k] (by simp)
      have hmem : ts[k] ∈ ts := by simp
      generalize ts[k] = x at *
      have HM := Lib.hid hmem
      have hxl := gx.len
      have HX := Lib.hid hkk
      clear hmem hkk
      go_wp2_with fail
      refine (read_ref x _ (by omega)).mono ?_
      rintro e w2 ⟨tv, rfl, o2, b2⟩
      have hz2 := b2.size
      obtain ⟨ua, uc, rfl, _⟩ := o2.strs.split
      by_cases hx : hd x = sPiece
      · obtain ⟨o, i, ho, hi, e2⟩ := gx.piece hx
        have e3 : rd x = (sPiece, [Lib.decDigits o, Lib.decDigits i]) := by rw [← e2, ← hx]; rfl
        rw [e3] at o2 ⊢
        unfold sPiece
        obtain ⟨b4, off4, rfl, hb6, f0⟩ := o2.strs.get (i := 0) (t := Lib.decDigits o) rfl
        obtain ⟨_, _, e9, _, f1⟩ := o2.strs.get (i := 1) (t := Lib.decDigits i) rfl
        cases e9
        simp only [Nat.add_zero] at f0
        have EP : Hid (pieceS x = ((o : Int), (i : Int))) := Lib.hid (by
          unfold pieceS
          rw [e3]
          simp only [List.getD_cons_zero, List.getD_cons_succ, numS_dec (show o < 20 by omega), numS_dec hi])
        have HH := Lib.hid hx
        clear hx e2 e3 gx o2
        have hO4 : b4 < w2.heap.size + 1 := by omega
        have ho20 : o < 20 := by omega
        have hcs : k = 0 ∨ (0 < k ∧ ov = o) ∨ (0 < k ∧ ov ≠ o) := by omega
        have HCS := Lib.hid hcs
        clear hcs
        go_wp2_with fail
        refine wp_region_fork (.fork [(0, 0), (1, 1), (2, 0), (3, 1), (5, 0), (6, 1), (7, 0), (8, 1)] 4 11 (.fork [] 9 11 (.leaf [(10, 0), (11, 2), (12, 3)]) (.leaf [(9, 2), (10, 0), (12, 3)])) (.leaf [(4, 2), (9, 2), (10, 0), (12, 3)])) (by kernel_rfl) (by kernel_rfl) (fun _ _ d _ _ h => by cases d <;> exact h) ?_
        have hxE := @ExtN.cell (w2.heap.size + 1)
        repeat (any_goals (first | (refine wT_fork ?_) | (refine wT_leaf ?_) | (apply wpF_no; exact rfl; exact (wanted_no rfl rfl rfl (by with_reducible (first | exact Bool.not_true | exact Bool.not_false))); (try simp only [Act.put, List.setIfInBounds_toArray, List.set_cons_zero, List.set_cons_succ])) | (apply wpF_0; exact rfl; exact rfl; exact (wanted_free rfl); intro K hK; go_big_quiet_op; first | (refine hK _ ?_; clear hK K) | (split <;> (refine hK _ ?_; clear hK K))) | (apply wpF_1 (w2.heap.size + 1) (by first | exact Nat.le_refl _ | assumption | (simp; done) | (simp; omega) | omega); exact rfl; exact rfl; exact (wanted_free rfl); intro K hK; go_big_quiet_op; first | (refine hK _ ?_; clear hK K) | (split <;> (refine hK _ ?_; clear hK K))) | (apply wpF_0; exact rfl; exact rfl; exact (wanted_yes rfl rfl rfl (by with_reducible rfl)); intro K hK; go_big_quiet_op; first | (refine hK _ ?_; clear hK K) | (split <;> (refine hK _ ?_; clear hK K))) | (apply wpF_1 (w2.heap.size + 1) (by first | exact Nat.le_refl _ | assumption | (simp; done) | (simp; omega) | omega); exact rfl; exact rfl; exact (wanted_yes rfl rfl rfl (by with_reducible rfl)); intro K hK; go_big_quiet_op; first | (refine hK _ ?_; clear hK K) | (split <;> (refine hK _ ?_; clear hK K))) | (refine wpF_nil ⟨?_, ?_⟩) | (apply hv_of; exact rfl; intro K hK; go_simp; first | (refine hK _ _ (by first | exact Ext.refl _ | exact ext_alloc _ _ | exact ext_alloc_drew _ _) ?_; clear hK K) | ((with_reducible refine (number_20 o ho20 _).mono ?_); rintro e wA ⟨rfl, cA⟩; (try (have kb := (cA.block _ (by simp)).trans (heap_alloc_new _ _))); refine hK _ _ cA ?_; clear hK K) | ((with_reducible refine (number_255 i hi _).mono ?_); rintro e wB ⟨rfl, cB⟩; (try (first | (have kc := (cB.block _ (blk_lt kb)).trans kb) | (have kc := (cB.block _ (by simp)).trans (heap_alloc_new _ _)))); (try (have q0 := blk_cell kc 0; have q1 := blk_cell kc 1; have q2 := blk_frozen kc 0; have q3 := blk_frozen kc 1; simp at q0 q1 q2 q3)); refine hK _ _ cB ?_; clear hK K)) | (apply wpF_2; exact rfl; intro K hK; go_simp; first | (refine hK _ _ (by first | exact Ext.refl _ | exact ext_alloc _ _ | exact ext_alloc_drew _ _) ?_; clear hK K) | ((with_reducible refine (number_20 o ho20 _).mono ?_); rintro e wA ⟨rfl, cA⟩; (try (have kb := (cA.block _ (by simp)).trans (heap_alloc_new _ _))); refine hK _ _ cA ?_; clear hK K) | ((with_reducible refine (number_255 i hi _).mono ?_); rintro e wB ⟨rfl, cB⟩; (try (first | (have kc := (cB.block _ (blk_lt kb)).trans kb) | (have kc := (cB.block _ (by simp)).trans (heap_alloc_new _ _)))); (try (have q0 := blk_cell kc 0; have q1 := blk_cell kc 1; have q2 := blk_frozen kc 0; have q3 := blk_frozen kc 1; simp at q0 q1 q2 q3)); refine hK _ _ cB ?_; clear hK K)) | (apply wpF_3; exact rfl; intro K hK; go_simp; refine hK _ _ ?_; clear hK K)))
        all_goals (first | (refine wpF_nil ?_; clear hxE) | skip)
        all_goals (have hA := cA.size; have hB := cB.size; simp at hA hB)
        all_goals (first | (refine exit_named (fun W => (PieceAt W (wB.heap.size) 0 ((o : Int), (i : Int)) ∧ wB.heap.size < W.heap.size) ∧ Below wr.heap.size wr W) ⟨⟨⟨?_, ?_, ?_, ?_⟩, ?_⟩, ?_⟩ ?_; (· (simp; done)); (· (simp; done)); (· (unfold i64ok; omega)); (· (unfold i64ok; omega)); (· (simp; done)); (· exact (by repeat (first | exact Below.refl _ _ | exact cB | refine Below.trans ?_ (Below.mono cB (by first | (simp; done) | (simp; omega) | omega)) | exact cA | refine Below.trans ?_ (Below.mono cA (by first | (simp; done) | (simp; omega) | omega)) | exact b2 | refine Below.trans ?_ (Below.mono b2 (by first | (simp; done) | (simp; omega) | omega)) | refine Below.setCell ?_ (by first | (simp; done) | (simp; omega) | (have hszq := (cB).size; simp at hszq ⊢; omega) | (have hszq := (cA).size; simp at hszq ⊢; omega) | (have hszq := (b2).size; simp at hszq ⊢; omega)) _ | refine Below.alloc ?_ (by first | (simp; done) | (simp; omega) | (have hszq := (cB).size; simp at hszq ⊢; omega) | (have hszq := (cA).size; simp at hszq ⊢; omega) | (have hszq := (b2).size; simp at hszq ⊢; omega)) _ | refine below_drewN ?_ _ | refine Below.drew ?_)))) | (have kd : wB.heap[wA.heap.size]? = some (.cells #[.int .i64 0, .int .i64 0] 46 (0, 0)) := kc; refine exit_named (fun W => (PieceAt W (wA.heap.size) 0 ((o : Int), (i : Int)) ∧ wA.heap.size < W.heap.size) ∧ Below wr.heap.size wr W) ⟨⟨⟨?_, ?_, ?_, ?_⟩, ?_⟩, ?_⟩ ?_; (· (exact blk_cell (blk_set (blk_set kd 0 _) 1 _) 0)); (· (exact blk_cell (blk_set (blk_set kd 0 _) 1 _) 1)); (· (unfold i64ok; omega)); (· (unfold i64ok; omega)); (· (simp; omega; done)); (· exact (by repeat (first | exact Below.refl _ _ | exact cB | refine Below.trans ?_ (Below.mono cB (by first | (simp; done) | (simp; omega) | omega)) | exact cA | refine Below.trans ?_ (Below.mono cA (by first | (simp; done) | (simp; omega) | omega)) | exact b2 | refine Below.trans ?_ (Below.mono b2 (by first | (simp; done) | (simp; omega) | omega)) | refine Below.setCell ?_ (by first | (simp; done) | (simp; omega) | (have hszq := (cB).size; simp at hszq ⊢; omega) | (have hszq := (cA).size; simp at hszq ⊢; omega) | (have hszq := (b2).size; simp at hszq ⊢; omega)) _ | refine Below.alloc ?_ (by first | (simp; done) | (simp; omega) | (have hszq := (cB).size; simp at hszq ⊢; omega) | (have hszq := (cA).size; simp at hszq ⊢; omega) | (have hszq := (b2).size; simp at hszq ⊢; omega)) _ | refine below_drewN ?_ _ | refine Below.drew ?_)))) | (have kd : wB.heap[w2.heap.size + 1]? = some (.cells #[.int .i64 0, .int .i64 0] 46 (0, 0)) := (by simpa using kc); refine exit_named (fun W => (PieceAt W (w2.heap.size + 1) 0 ((o : Int), (i : Int)) ∧ w2.heap.size + 1 < W.heap.size) ∧ Below wr.heap.size wr W) ⟨⟨⟨?_, ?_, ?_, ?_⟩, ?_⟩, ?_⟩ ?_; (· (exact blk_cell (blk_set (blk_set kd 0 _) 1 _) 0)); (· (exact blk_cell (blk_set (blk_set kd 0 _) 1 _) 1)); (· (unfold i64ok; omega)); (· (unfold i64ok; omega)); (· (simp; omega; done)); (· exact (by repeat (first | exact Below.refl _ _ | exact cB | refine Below.trans ?_ (Below.mono cB (by first | (simp; done) | (simp; omega) | omega)) | exact cA | refine Below.trans ?_ (Below.mono cA (by first | (simp; done) | (simp; omega) | omega)) | exact b2 | refine Below.trans ?_ (Below.mono b2 (by first | (simp; done) | (simp; omega) | omega)) | refine Below.setCell ?_ (by first | (simp; done) | (simp; omega) | (have hszq := (cB).size; simp at hszq ⊢; omega) | (have hszq := (cA).size; simp at hszq ⊢; omega) | (have hszq := (b2).size; simp at hszq ⊢; omega)) _ | refine Below.alloc ?_ (by first | (simp; done) | (simp; omega) | (have hszq := (cB).size; simp at hszq ⊢; omega) | (have hszq := (cA).size; simp at hszq ⊢; omega) | (have hszq := (b2).size; simp at hszq ⊢; omega)) _ | refine below_drewN ?_ _ | refine Below.drew ?_)))))
        all_goals (clear cA cB hA hB; try clear kb; try clear kc; try clear kd; try clear q0 q1 q2 q3)
        all_goals (intro w6 h6; obtain ⟨⟨⟨d1, d2, d3, d4⟩, d5⟩, d6⟩ := h6; simp only [Nat.zero_add] at d1 d2)
        all_goals have R6 : Hid (Below w.heap.size w w6) := Lib.hid (hR.bel.trans (d6.mono hzr))
        all_goals have P6 := Lib.hid (hR.own.mono d6)
        all_goals (have hz6 := R6.out.size; clear d6 d3 d4 f0 f1 b2)
        all_goals
          clear hR
          rcases HCS.out with h0 | ⟨h1, h2⟩ | ⟨h3, h4⟩
          · have E0 := Lib.hid h0
            clear h0
            have f1 : decide (0 < k) = false := (by rw [decide_eq_false_iff_not]; have := E0.out; omega)
            go_wp2_with (at_builtin; refine wpl_app_piece rfl (.tmp 45) (.tmp 47) rfl w.heap.size _ _ rfl (P6.out.mono (ext_alloc _ _)) w6.heap.size ((o : Int), (i : Int)) rfl (by simp) (by simp) (by simp; omega) (by simp; omega) ?_; intro v2 w7 ow2 p2 p3; have bw2 : Below w.heap.size w w7 := (R6.out.alloc (by omega) _).grown p2 (by simp; omega) (fun j hj => P6.out.own_ge j hj); obtain ⟨va, vc, rfl⟩ := p3)
            go_roundw
            case rel => exact ⟨k + 1, (o : Int), _, by omega, by go_num, rfl, rfl, HRR.out.next HX.out HH.out EP.out ho hL (.inl E0.out) (by have hq := ow2; rw [show ((ts.take k).map pieceS).length = k by simp; omega] at hq; exact hq) bw2⟩
            case measure => simp [intOf]; omega
          · have f1 : decide (0 < k) = true := (by rw [decide_eq_true_eq]; omega)
            subst h2
            go_wp2_with (at_builtin; refine wpl_app_piece rfl (.tmp 45) (.tmp 47) rfl w.heap.size _ _ rfl (P6.out.mono (ext_alloc _ _)) w6.heap.size ((o : Int), (i : Int)) rfl (by simp) (by simp) (by simp; omega) (by simp; omega) ?_; intro v2 w7 ow2 p2 p3; have bw2 : Below w.heap.size w w7 := (R6.out.alloc (by omega) _).grown p2 (by simp; omega) (fun j hj => P6.out.own_ge j hj); obtain ⟨va, vc, rfl⟩ := p3)
            go_roundw
            case rel => exact ⟨k + 1, (o : Int), _, by omega, by go_num, rfl, rfl, HRR.out.next HX.out HH.out EP.out ho hL (.inr rfl) (by have hq := ow2; rw [show ((ts.take k).map pieceS).length = k by simp; omega] at hq; exact hq) bw2⟩
            case measure => simp [intOf]; omega
          · have f1 : decide (0 < k) = true := (by rw [decide_eq_true_eq]; omega)
            have f2 : ((o : Int) == ov) = false := (by rw [beq_eq_false_iff_ne]; omega)
            have HE := Lib.hid (HRR.out.mix HX.out EP.out h3 h4)
            clear h4
            go_wp2_with fail
            go_ret
            exact ⟨by rw [HE.out]; rfl, R6.out⟩
      · have hq : ((rd x).1 == [112, 105, 101, 99, 101]) = false := by simpa [sPiece, hd] using hx
        have HE := Lib.hid (enough_other (l := l) HM.out hx)
        clear hx
        go_wp2_with fail
        go_ret
        exact ⟨by rw [HE.out]; rfl, (by repeat (first | exact Below.refl _ _ | exact hR.bel.trans (b2.mono hzr) | refine Below.trans ?_ (Below.mono hR.bel.trans (b2.mono hzr) (by first | (simp; done) | (simp; omega) | omega)) | refine Below.setCell ?_ (by first | (simp; done) | (simp; omega) | (have hszq := (hR.bel.trans (b2.mono hzr)).size; simp at hszq ⊢; omega)) _ | refine Below.alloc ?_ (by first | (simp; done) | (simp; omega) | (have hszq := (hR.bel.trans (b2.mono hzr)).size; simp at hszq ⊢; omega)) _ | refine below_drewN ?_ _ | refine Below.drew ?_))⟩
    · have hke : k = ts.length := by omega
      subst hke
      have hp := hR.hp
      have hso := hR.ho
      rw [List.take_length] at hp hso
      by_cases hne : ts = []
      · have hov : ov = -1 := hR.h0 (by rw [hne]; rfl)
        have HE : Hid (enoughS l ts = -1) := Lib.hid (by unfold enoughS; rw [if_pos hne])
        have B := Lib.hid hR.bel
        subst hov
        clear HRR hR hne hp hso
        go_wp2_with fail
        refine wp_region_early ((0, 0) :: (1, 0) :: (2, 0) :: (3, 0) :: (4, 0) :: (6, 0) :: (7, 0) :: (8, 0) :: (9, 0) :: (10, 1) :: (5, 2) :: (11, 0) :: (12, 0) :: []) (by kernel_rfl) (by kernel_rfl) (fun _ _ d _ _ h => by cases d <;> exact h) ?_
        have hxE := @ExtN.cell (wr.heap.size)
        all_goals (apply wpE_0; exact rfl; exact rfl; exact (wanted_free rfl); intro K hK; go_big_quiet_op; first | (refine hK _ ?_; clear hK K) | (split <;> (refine hK _ ?_; clear hK K)))
        all_goals (apply wpE_0; exact rfl; exact rfl; exact (wanted_free rfl); intro K hK; go_big_quiet_op; first | (refine hK _ ?_; clear hK K) | (split <;> (refine hK _ ?_; clear hK K)))
        all_goals (apply wpE_0; exact rfl; exact rfl; exact (wanted_free rfl); intro K hK; go_big_quiet_op; first | (refine hK _ ?_; clear hK K) | (split <;> (refine hK _ ?_; clear hK K)))
        all_goals (first | (apply wpE_no; exact rfl; exact (wanted_no rfl rfl rfl (by with_reducible (first | exact Bool.not_true | exact Bool.not_false))); (try simp only [Act.put, List.setIfInBounds_toArray, List.set_cons_zero, List.set_cons_succ])) | (apply wpE_0; exact rfl; exact rfl; exact (wanted_yes rfl rfl rfl (by with_reducible rfl)); intro K hK; go_big_quiet_op; first | (refine hK _ ?_; clear hK K) | (split <;> (refine hK _ ?_; clear hK K))) | (apply wpE_split; exact rfl; exact rfl; exact rfl; exact rfl; all_goals (intro hB; simp only [hB]; (try simp only [Bool.or_eq_true, Bool.and_eq_true, Bool.or_eq_false_iff, Bool.and_eq_false_iff, Bool.not_eq_true', Bool.not_eq_false', decide_eq_true_eq, decide_eq_false_iff_not, bne_iff_ne, beq_iff_eq] at hB); first | (exfalso; omega) | (apply wpE_no; exact rfl; exact (wanted_no rfl rfl rfl (by with_reducible (first | exact Bool.not_true | exact Bool.not_false))); (try simp only [Act.put, List.setIfInBounds_toArray, List.set_cons_zero, List.set_cons_succ])) | (apply wpE_0; exact rfl; exact rfl; exact (wanted_yes rfl rfl rfl (by with_reducible rfl)); intro K hK; go_big_quiet_op; first | (refine hK _ ?_; clear hK K) | (split <;> (refine hK _ ?_; clear hK K))))))
        all_goals (first | (apply wpE_no; exact rfl; exact (wanted_no rfl rfl rfl (by with_reducible (first | exact Bool.not_true | exact Bool.not_false))); (try simp only [Act.put, List.setIfInBounds_toArray, List.set_cons_zero, List.set_cons_succ])) | (apply wpE_0; exact rfl; exact rfl; exact (wanted_yes rfl rfl rfl (by with_reducible rfl)); intro K hK; go_big_quiet_op; first | (refine hK _ ?_; clear hK K) | (split <;> (refine hK _ ?_; clear hK K))) | (apply wpE_split; exact rfl; exact rfl; exact rfl; exact rfl; all_goals (intro hB; simp only [hB]; (try simp only [Bool.or_eq_true, Bool.and_eq_true, Bool.or_eq_false_iff, Bool.and_eq_false_iff, Bool.not_eq_true', Bool.not_eq_false', decide_eq_true_eq, decide_eq_false_iff_not, bne_iff_ne, beq_iff_eq] at hB); first | (exfalso; omega) | (apply wpE_no; exact rfl; exact (wanted_no rfl rfl rfl (by with_reducible (first | exact Bool.not_true | exact Bool.not_false))); (try simp only [Act.put, List.setIfInBounds_toArray, List.set_cons_zero, List.set_cons_succ])) | (apply wpE_0; exact rfl; exact rfl; exact (wanted_yes rfl rfl rfl (by with_reducible rfl)); intro K hK; go_big_quiet_op; first | (refine hK _ ?_; clear hK K) | (split <;> (refine hK _ ?_; clear hK K))))))
        all_goals (first | (apply wpE_no; exact rfl; exact (wanted_no rfl rfl rfl (by with_reducible (first | exact Bool.not_true | exact Bool.not_false))); (try simp only [Act.put, List.setIfInBounds_toArray, List.set_cons_zero, List.set_cons_succ])) | (apply wpE_0; exact rfl; exact rfl; exact (wanted_yes rfl rfl rfl (by with_reducible rfl)); intro K hK; go_big_quiet_op; first | (refine hK _ ?_; clear hK K) | (split <;> (refine hK _ ?_; clear hK K))) | (apply wpE_split; exact rfl; exact rfl; exact rfl; exact rfl; all_goals (intro hB; simp only [hB]; (try simp only [Bool.or_eq_true, Bool.and_eq_true, Bool.or_eq_false_iff, Bool.and_eq_false_iff, Bool.not_eq_true', Bool.not_eq_false', decide_eq_true_eq, decide_eq_false_iff_not, bne_iff_ne, beq_iff_eq] at hB); first | (exfalso; omega) | (apply wpE_no; exact rfl; exact (wanted_no rfl rfl rfl (by with_reducible (first | exact Bool.not_true | exact Bool.not_false))); (try simp only [Act.put, List.setIfInBounds_toArray, List.set_cons_zero, List.set_cons_succ])) | (apply wpE_0; exact rfl; exact rfl; exact (wanted_yes rfl rfl rfl (by with_reducible rfl)); intro K hK; go_big_quiet_op; first | (refine hK _ ?_; clear hK K) | (split <;> (refine hK _ ?_; clear hK K))))))
        all_goals (first | (apply wpE_no; exact rfl; exact (wanted_no rfl rfl rfl (by with_reducible (first | exact Bool.not_true | exact Bool.not_false))); (try simp only [Act.put, List.setIfInBounds_toArray, List.set_cons_zero, List.set_cons_succ])) | (apply wpE_0; exact rfl; exact rfl; exact (wanted_yes rfl rfl rfl (by with_reducible rfl)); intro K hK; go_big_quiet_op; first | (refine hK _ ?_; clear hK K) | (split <;> (refine hK _ ?_; clear hK K))) | (apply wpE_split; exact rfl; exact rfl; exact rfl; exact rfl; all_goals (intro hB; simp only [hB]; (try simp only [Bool.or_eq_true, Bool.and_eq_true, Bool.or_eq_false_iff, Bool.and_eq_false_iff, Bool.not_eq_true', Bool.not_eq_false', decide_eq_true_eq, decide_eq_false_iff_not, bne_iff_ne, beq_iff_eq] at hB); first | (exfalso; omega) | (apply wpE_no; exact rfl; exact (wanted_no rfl rfl rfl (by with_reducible (first | exact Bool.not_true | exact Bool.not_false))); (try simp only [Act.put, List.setIfInBounds_toArray, List.set_cons_zero, List.set_cons_succ])) | (apply wpE_0; exact rfl; exact rfl; exact (wanted_yes rfl rfl rfl (by with_reducible rfl)); intro K hK; go_big_quiet_op; first | (refine hK _ ?_; clear hK K) | (split <;> (refine hK _ ?_; clear hK K))))))
        all_goals (first | (apply wpE_no; exact rfl; exact (wanted_no rfl rfl rfl (by with_reducible (first | exact Bool.not_true | exact Bool.not_false))); (try simp only [Act.put, List.setIfInBounds_toArray, List.set_cons_zero, List.set_cons_succ])) | (apply wpE_0; exact rfl; exact rfl; exact (wanted_yes rfl rfl rfl (by with_reducible rfl)); intro K hK; go_big_quiet_op; first | (refine hK _ ?_; clear hK K) | (split <;> (refine hK _ ?_; clear hK K))) | (apply wpE_split; exact rfl; exact rfl; exact rfl; exact rfl; all_goals (intro hB; simp only [hB]; (try simp only [Bool.or_eq_true, Bool.and_eq_true, Bool.or_eq_false_iff, Bool.and_eq_false_iff, Bool.not_eq_true', Bool.not_eq_false', decide_eq_true_eq, decide_eq_false_iff_not, bne_iff_ne, beq_iff_eq] at hB); first | (exfalso; omega) | (apply wpE_no; exact rfl; exact (wanted_no rfl rfl rfl (by with_reducible (first | exact Bool.not_true | exact Bool.not_false))); (try simp only [Act.put, List.setIfInBounds_toArray, List.set_cons_zero, List.set_cons_succ])) | (apply wpE_0; exact rfl; exact rfl; exact (wanted_yes rfl rfl rfl (by with_reducible rfl)); intro K hK; go_big_quiet_op; first | (refine hK _ ?_; clear hK K) | (split <;> (refine hK _ ?_; clear hK K))))))
        all_goals (first | (apply wpE_no; exact rfl; exact (wanted_no rfl rfl rfl (by with_reducible (first | exact Bool.not_true | exact Bool.not_false))); (try simp only [Act.put, List.setIfInBounds_toArray, List.set_cons_zero, List.set_cons_succ])) | (apply wpE_0; exact rfl; exact rfl; exact (wanted_yes rfl rfl rfl (by with_reducible rfl)); intro K hK; go_big_quiet_op; first | (refine hK _ ?_; clear hK K) | (split <;> (refine hK _ ?_; clear hK K))) | (apply wpE_split; exact rfl; exact rfl; exact rfl; exact rfl; all_goals (intro hB; simp only [hB]; (try simp only [Bool.or_eq_true, Bool.and_eq_true, Bool.or_eq_false_iff, Bool.and_eq_false_iff, Bool.not_eq_true', Bool.not_eq_false', decide_eq_true_eq, decide_eq_false_iff_not, bne_iff_ne, beq_iff_eq] at hB); first | (exfalso; omega) | (apply wpE_no; exact rfl; exact (wanted_no rfl rfl rfl (by with_reducible (first | exact Bool.not_true | exact Bool.not_false))); (try simp only [Act.put, List.setIfInBounds_toArray, List.set_cons_zero, List.set_cons_succ])) | (apply wpE_0; exact rfl; exact rfl; exact (wanted_yes rfl rfl rfl (by with_reducible rfl)); intro K hK; go_big_quiet_op; first | (refine hK _ ?_; clear hK K) | (split <;> (refine hK _ ?_; clear hK K))))))
        all_goals (first | (apply wpE_no; exact rfl; exact (wanted_no rfl rfl rfl (by with_reducible (first | exact Bool.not_true | exact Bool.not_false))); (try simp only [Act.put, List.setIfInBounds_toArray, List.set_cons_zero, List.set_cons_succ])) | (apply wpE_1 (wr.heap.size) (by first | exact Nat.le_refl _ | assumption | (simp; done) | (simp; omega) | omega); exact rfl; exact rfl; exact (wanted_yes rfl rfl rfl (by with_reducible rfl)); intro K hK; go_big_quiet_op; first | (refine hK _ ?_; clear hK K) | (split <;> (refine hK _ ?_; clear hK K))) | (apply wpE_split; exact rfl; exact rfl; exact rfl; exact rfl; all_goals (intro hB; simp only [hB]; (try simp only [Bool.or_eq_true, Bool.and_eq_true, Bool.or_eq_false_iff, Bool.and_eq_false_iff, Bool.not_eq_true', Bool.not_eq_false', decide_eq_true_eq, decide_eq_false_iff_not, bne_iff_ne, beq_iff_eq] at hB); first | (exfalso; omega) | (apply wpE_no; exact rfl; exact (wanted_no rfl rfl rfl (by with_reducible (first | exact Bool.not_true | exact Bool.not_false))); (try simp only [Act.put, List.setIfInBounds_toArray, List.set_cons_zero, List.set_cons_succ])) | (apply wpE_1 (wr.heap.size) (by first | exact Nat.le_refl _ | assumption | (simp; done) | (simp; omega) | omega); exact rfl; exact rfl; exact (wanted_yes rfl rfl rfl (by with_reducible rfl)); intro K hK; go_big_quiet_op; first | (refine hK _ ?_; clear hK K) | (split <;> (refine hK _ ?_; clear hK K))))))
        all_goals (apply wpE_2; exact rfl; intro K hK; go_simp; first | (refine hK _ _ (by first | exact Ext.refl _ | exact ext_alloc _ _ | exact ext_alloc_drew _ _) ?_; clear hK K) | (fail; clear hK K))
        all_goals (first | (apply wpE_no; exact rfl; exact (wanted_no rfl rfl rfl (by with_reducible (first | exact Bool.not_true | exact Bool.not_false))); (try simp only [Act.put, List.setIfInBounds_toArray, List.set_cons_zero, List.set_cons_succ])) | (apply wpE_0; exact rfl; exact rfl; exact (wanted_yes rfl rfl rfl (by with_reducible rfl)); intro K hK; go_big_quiet_op; first | (refine hK _ ?_; clear hK K) | (split <;> (refine hK _ ?_; clear hK K))) | (apply wpE_split; exact rfl; exact rfl; exact rfl; exact rfl; all_goals (intro hB; simp only [hB]; (try simp only [Bool.or_eq_true, Bool.and_eq_true, Bool.or_eq_false_iff, Bool.and_eq_false_iff, Bool.not_eq_true', Bool.not_eq_false', decide_eq_true_eq, decide_eq_false_iff_not, bne_iff_ne, beq_iff_eq] at hB); first | (exfalso; omega) | (apply wpE_no; exact rfl; exact (wanted_no rfl rfl rfl (by with_reducible (first | exact Bool.not_true | exact Bool.not_false))); (try simp only [Act.put, List.setIfInBounds_toArray, List.set_cons_zero, List.set_cons_succ])) | (apply wpE_0; exact rfl; exact rfl; exact (wanted_yes rfl rfl rfl (by with_reducible rfl)); intro K hK; go_big_quiet_op; first | (refine hK _ ?_; clear hK K) | (split <;> (refine hK _ ?_; clear hK K))))))
        all_goals (apply wpE_0; exact rfl; exact rfl; exact (wanted_free rfl); intro K hK; go_big_quiet_op; first | (refine hK _ ?_; clear hK K) | (split <;> (refine hK _ ?_; clear hK K)))
        all_goals (refine wpE_nil ?_; clear hxE)
        go_wp2
        go_ret
        exact ⟨by rw [HE.out]; rfl, (by repeat (first | exact Below.refl _ _ | exact B.out | refine Below.trans ?_ (Below.mono B.out (by first | (simp; done) | (simp; omega) | omega)) | refine Below.setCell ?_ (by first | (simp; done) | (simp; omega) | (have hszq := (B.out).size; simp at hszq ⊢; omega)) _ | refine Below.alloc ?_ (by first | (simp; done) | (simp; omega) | (have hszq := (B.out).size; simp at hszq ⊢; omega)) _ | refine below_drewN ?_ _ | refine Below.drew ?_))⟩
      · have HE := Lib.hid (enough_all (l := l) hne hp hso)
        obtain ⟨g1, g2⟩ := hR.h1 (List.length_pos_iff.2 hne)
        obtain ⟨o, rfl⟩ : ∃ o : Nat, ov = o := ⟨ov.toNat, by omega⟩
        have ho : o < l.length := by omega
        have hown := hR.own
        rw [List.take_length] at hown
        have hlp : (ts.map pieceS).length = ts.length := by simp
        have PP := Lib.hid (hown.pieces (pieces_ok ts) (by rw [hlp]; omega))
        obtain ⟨_, oa, oc, rfl, hP⟩ := HO.out.mono hR.bel
        have hoo : l[o]? = some (l[o]'ho) := by simp
        obtain ⟨b8, off8, rfl, hb8, oat⟩ := hP o _ hoo
        have hk8 := oat.k
        have HKO : Hid (kOf l (o : Int) = (l[o]'ho).k) := Lib.hid (by unfold kOf; simp [hoo])
        generalize l[o]'ho = ob at *
        have B := Lib.hid hR.bel
        have hpl : (ts.map pieceS).length ≤ 1000000 := by omega
        obtain ⟨pa, pc, rfl⟩ : ∃ a c, gv = .slice a (ts.map pieceS).length c := by
          obtain ⟨_, a, c, e, _⟩ := PP.out
          exact ⟨a, c, e⟩
        clear HRR hR hp hso hown hlp hP oat hoo g1 g2 HO hne
        generalize ts.map pieceS = ps at *
        have hol : (o : Int) < l.length := by omega
        have hdl := distN_le ps (o : Int)
        by_cases hlt3 : (distN ps o : Int) < ob.k
        · have HX : Hid (enoughS l ts = -1) := Lib.hid (by rw [HE.out, HKO.out, if_pos hlt3])
          clear HE HKO
          go_wp2_with fail
          refine wp_region_early ((0, 0) :: (1, 0) :: (2, 0) :: (3, 0) :: (4, 0) :: (6, 0) :: (7, 0) :: (8, 0) :: (9, 0) :: (10, 1) :: (5, 2) :: (11, 0) :: (12, 0) :: []) (by kernel_rfl) (by kernel_rfl) (fun _ _ d _ _ h => by cases d <;> exact h) ?_
          have hxE := @ExtN.cell (wr.heap.size)
          all_goals (apply wpE_0; exact rfl; exact rfl; exact (wanted_free rfl); intro K hK; go_big_quiet_op; first | (refine hK _ ?_; clear hK K) | (split <;> (refine hK _ ?_; clear hK K)))
          all_goals (apply wpE_0; exact rfl; exact rfl; exact (wanted_free rfl); intro K hK; go_big_quiet_op; first | (refine hK _ ?_; clear hK K) | (split <;> (refine hK _ ?_; clear hK K)))
          all_goals (apply wpE_0; exact rfl; exact rfl; exact (wanted_free rfl); intro K hK; go_big_quiet_op; first | (refine hK _ ?_; clear hK K) | (split <;> (refine hK _ ?_; clear hK K)))
          all_goals (first | (apply wpE_no; exact rfl; exact (wanted_no rfl rfl rfl (by with_reducible (first | exact Bool.not_true | exact Bool.not_false))); (try simp only [Act.put, List.setIfInBounds_toArray, List.set_cons_zero, List.set_cons_succ])) | (apply wpE_0; exact rfl; exact rfl; exact (wanted_yes rfl rfl rfl (by with_reducible rfl)); intro K hK; go_big_quiet_op; first | (refine hK _ ?_; clear hK K) | (split <;> (refine hK _ ?_; clear hK K))) | (apply wpE_split; exact rfl; exact rfl; exact rfl; exact rfl; all_goals (intro hB; simp only [hB]; (try simp only [Bool.or_eq_true, Bool.and_eq_true, Bool.or_eq_false_iff, Bool.and_eq_false_iff, Bool.not_eq_true', Bool.not_eq_false', decide_eq_true_eq, decide_eq_false_iff_not, bne_iff_ne, beq_iff_eq] at hB); first | (exfalso; omega) | (apply wpE_no; exact rfl; exact (wanted_no rfl rfl rfl (by with_reducible (first | exact Bool.not_true | exact Bool.not_false))); (try simp only [Act.put, List.setIfInBounds_toArray, List.set_cons_zero, List.set_cons_succ])) | (apply wpE_0; exact rfl; exact rfl; exact (wanted_yes rfl rfl rfl (by with_reducible rfl)); intro K hK; go_big_quiet_op; first | (refine hK _ ?_; clear hK K) | (split <;> (refine hK _ ?_; clear hK K))))))
          all_goals (first | (apply wpE_no; exact rfl; exact (wanted_no rfl rfl rfl (by with_reducible (first | exact Bool.not_true | exact Bool.not_false))); (try simp only [Act.put, List.setIfInBounds_toArray, List.set_cons_zero, List.set_cons_succ])) | (apply wpE_0; exact rfl; exact rfl; exact (wanted_yes rfl rfl rfl (by with_reducible rfl)); intro K hK; go_big_quiet_op; first | (refine hK _ ?_; clear hK K) | (split <;> (refine hK _ ?_; clear hK K))) | (apply wpE_split; exact rfl; exact rfl; exact rfl; exact rfl; all_goals (intro hB; simp only [hB]; (try simp only [Bool.or_eq_true, Bool.and_eq_true, Bool.or_eq_false_iff, Bool.and_eq_false_iff, Bool.not_eq_true', Bool.not_eq_false', decide_eq_true_eq, decide_eq_false_iff_not, bne_iff_ne, beq_iff_eq] at hB); first | (exfalso; omega) | (apply wpE_no; exact rfl; exact (wanted_no rfl rfl rfl (by with_reducible (first | exact Bool.not_true | exact Bool.not_false))); (try simp only [Act.put, List.setIfInBounds_toArray, List.set_cons_zero, List.set_cons_succ])) | (apply wpE_0; exact rfl; exact rfl; exact (wanted_yes rfl rfl rfl (by with_reducible rfl)); intro K hK; go_big_quiet_op; first | (refine hK _ ?_; clear hK K) | (split <;> (refine hK _ ?_; clear hK K))))))
          all_goals (first | (apply wpE_no; exact rfl; exact (wanted_no rfl rfl rfl (by with_reducible (first | exact Bool.not_true | exact Bool.not_false))); (try simp only [Act.put, List.setIfInBounds_toArray, List.set_cons_zero, List.set_cons_succ])) | (apply wpE_0; exact rfl; exact rfl; exact (wanted_yes rfl rfl rfl (by with_reducible rfl)); intro K hK; go_big_quiet_op; first | (refine hK _ ?_; clear hK K) | (split <;> (refine hK _ ?_; clear hK K))) | (apply wpE_split; exact rfl; exact rfl; exact rfl; exact rfl; all_goals (intro hB; simp only [hB]; (try simp only [Bool.or_eq_true, Bool.and_eq_true, Bool.or_eq_false_iff, Bool.and_eq_false_iff, Bool.not_eq_true', Bool.not_eq_false', decide_eq_true_eq, decide_eq_false_iff_not, bne_iff_ne, beq_iff_eq] at hB); first | (exfalso; omega) | (apply wpE_no; exact rfl; exact (wanted_no rfl rfl rfl (by with_reducible (first | exact Bool.not_true | exact Bool.not_false))); (try simp only [Act.put, List.setIfInBounds_toArray, List.set_cons_zero, List.set_cons_succ])) | (apply wpE_0; exact rfl; exact rfl; exact (wanted_yes rfl rfl rfl (by with_reducible rfl)); intro K hK; go_big_quiet_op; first | (refine hK _ ?_; clear hK K) | (split <;> (refine hK _ ?_; clear hK K))))))
          all_goals (first | (apply wpE_no; exact rfl; exact (wanted_no rfl rfl rfl (by with_reducible (first | exact Bool.not_true | exact Bool.not_false))); (try simp only [Act.put, List.setIfInBounds_toArray, List.set_cons_zero, List.set_cons_succ])) | (apply wpE_0; exact rfl; exact rfl; exact (wanted_yes rfl rfl rfl (by with_reducible rfl)); intro K hK; go_big_quiet_op; first | (refine hK _ ?_; clear hK K) | (split <;> (refine hK _ ?_; clear hK K))) | (apply wpE_split; exact rfl; exact rfl; exact rfl; exact rfl; all_goals (intro hB; simp only [hB]; (try simp only [Bool.or_eq_true, Bool.and_eq_true, Bool.or_eq_false_iff, Bool.and_eq_false_iff, Bool.not_eq_true', Bool.not_eq_false', decide_eq_true_eq, decide_eq_false_iff_not, bne_iff_ne, beq_iff_eq] at hB); first | (exfalso; omega) | (apply wpE_no; exact rfl; exact (wanted_no rfl rfl rfl (by with_reducible (first | exact Bool.not_true | exact Bool.not_false))); (try simp only [Act.put, List.setIfInBounds_toArray, List.set_cons_zero, List.set_cons_succ])) | (apply wpE_0; exact rfl; exact rfl; exact (wanted_yes rfl rfl rfl (by with_reducible rfl)); intro K hK; go_big_quiet_op; first | (refine hK _ ?_; clear hK K) | (split <;> (refine hK _ ?_; clear hK K))))))
          all_goals (first | (apply wpE_no; exact rfl; exact (wanted_no rfl rfl rfl (by with_reducible (first | exact Bool.not_true | exact Bool.not_false))); (try simp only [Act.put, List.setIfInBounds_toArray, List.set_cons_zero, List.set_cons_succ])) | (apply wpE_0; exact rfl; exact rfl; exact (wanted_yes rfl rfl rfl (by with_reducible rfl)); intro K hK; go_big_quiet_op; first | (refine hK _ ?_; clear hK K) | (split <;> (refine hK _ ?_; clear hK K))) | (apply wpE_split; exact rfl; exact rfl; exact rfl; exact rfl; all_goals (intro hB; simp only [hB]; (try simp only [Bool.or_eq_true, Bool.and_eq_true, Bool.or_eq_false_iff, Bool.and_eq_false_iff, Bool.not_eq_true', Bool.not_eq_false', decide_eq_true_eq, decide_eq_false_iff_not, bne_iff_ne, beq_iff_eq] at hB); first | (exfalso; omega) | (apply wpE_no; exact rfl; exact (wanted_no rfl rfl rfl (by with_reducible (first | exact Bool.not_true | exact Bool.not_false))); (try simp only [Act.put, List.setIfInBounds_toArray, List.set_cons_zero, List.set_cons_succ])) | (apply wpE_0; exact rfl; exact rfl; exact (wanted_yes rfl rfl rfl (by with_reducible rfl)); intro K hK; go_big_quiet_op; first | (refine hK _ ?_; clear hK K) | (split <;> (refine hK _ ?_; clear hK K))))))
          all_goals (first | (apply wpE_no; exact rfl; exact (wanted_no rfl rfl rfl (by with_reducible (first | exact Bool.not_true | exact Bool.not_false))); (try simp only [Act.put, List.setIfInBounds_toArray, List.set_cons_zero, List.set_cons_succ])) | (apply wpE_0; exact rfl; exact rfl; exact (wanted_yes rfl rfl rfl (by with_reducible rfl)); intro K hK; go_big_quiet_op; first | (refine hK _ ?_; clear hK K) | (split <;> (refine hK _ ?_; clear hK K))) | (apply wpE_split; exact rfl; exact rfl; exact rfl; exact rfl; all_goals (intro hB; simp only [hB]; (try simp only [Bool.or_eq_true, Bool.and_eq_true, Bool.or_eq_false_iff, Bool.and_eq_false_iff, Bool.not_eq_true', Bool.not_eq_false', decide_eq_true_eq, decide_eq_false_iff_not, bne_iff_ne, beq_iff_eq] at hB); first | (exfalso; omega) | (apply wpE_no; exact rfl; exact (wanted_no rfl rfl rfl (by with_reducible (first | exact Bool.not_true | exact Bool.not_false))); (try simp only [Act.put, List.setIfInBounds_toArray, List.set_cons_zero, List.set_cons_succ])) | (apply wpE_0; exact rfl; exact rfl; exact (wanted_yes rfl rfl rfl (by with_reducible rfl)); intro K hK; go_big_quiet_op; first | (refine hK _ ?_; clear hK K) | (split <;> (refine hK _ ?_; clear hK K))))))
          all_goals (first | (apply wpE_no; exact rfl; exact (wanted_no rfl rfl rfl (by with_reducible (first | exact Bool.not_true | exact Bool.not_false))); (try simp only [Act.put, List.setIfInBounds_toArray, List.set_cons_zero, List.set_cons_succ])) | (apply wpE_1 (wr.heap.size) (by first | exact Nat.le_refl _ | assumption | (simp; done) | (simp; omega) | omega); exact rfl; exact rfl; exact (wanted_yes rfl rfl rfl (by with_reducible rfl)); intro K hK; go_big_quiet_op; first | (refine hK _ ?_; clear hK K) | (split <;> (refine hK _ ?_; clear hK K))) | (apply wpE_split; exact rfl; exact rfl; exact rfl; exact rfl; all_goals (intro hB; simp only [hB]; (try simp only [Bool.or_eq_true, Bool.and_eq_true, Bool.or_eq_false_iff, Bool.and_eq_false_iff, Bool.not_eq_true', Bool.not_eq_false', decide_eq_true_eq, decide_eq_false_iff_not, bne_iff_ne, beq_iff_eq] at hB); first | (exfalso; omega) | (apply wpE_no; exact rfl; exact (wanted_no rfl rfl rfl (by with_reducible (first | exact Bool.not_true | exact Bool.not_false))); (try simp only [Act.put, List.setIfInBounds_toArray, List.set_cons_zero, List.set_cons_succ])) | (apply wpE_1 (wr.heap.size) (by first | exact Nat.le_refl _ | assumption | (simp; done) | (simp; omega) | omega); exact rfl; exact rfl; exact (wanted_yes rfl rfl rfl (by with_reducible rfl)); intro K hK; go_big_quiet_op; first | (refine hK _ ?_; clear hK K) | (split <;> (refine hK _ ?_; clear hK K))))))
          all_goals (apply wpE_2; exact rfl; intro K hK; go_simp; first | (refine hK _ _ (by first | exact Ext.refl _ | exact ext_alloc _ _ | exact ext_alloc_drew _ _) ?_; clear hK K) | (refine (distinct_ref _ ps _ _ (PP.out.mono (by exact (by repeat (first | exact Below.refl _ _ | refine Below.setCell ?_ (by first | (simp; done) | (simp; omega)) _ | refine Below.alloc ?_ (by first | (simp; done) | (simp; omega)) _ | refine below_drewN ?_ _ | refine Below.drew ?_)))) hpl).mono ?_; rintro e w6 ⟨rfl, nq, rfl⟩; refine hK _ _ (below_drewN' _ _) ?_; clear hK K))
          all_goals (first | (apply wpE_no; exact rfl; exact (wanted_no rfl rfl rfl (by with_reducible (first | exact Bool.not_true | exact Bool.not_false))); (try simp only [Act.put, List.setIfInBounds_toArray, List.set_cons_zero, List.set_cons_succ])) | (apply wpE_0; exact rfl; exact rfl; exact (wanted_yes rfl rfl rfl (by with_reducible rfl)); intro K hK; go_big_quiet_op; first | (refine hK _ ?_; clear hK K) | (split <;> (refine hK _ ?_; clear hK K))) | (apply wpE_split; exact rfl; exact rfl; exact rfl; exact rfl; all_goals (intro hB; simp only [hB]; (try simp only [Bool.or_eq_true, Bool.and_eq_true, Bool.or_eq_false_iff, Bool.and_eq_false_iff, Bool.not_eq_true', Bool.not_eq_false', decide_eq_true_eq, decide_eq_false_iff_not, bne_iff_ne, beq_iff_eq] at hB); first | (exfalso; omega) | (apply wpE_no; exact rfl; exact (wanted_no rfl rfl rfl (by with_reducible (first | exact Bool.not_true | exact Bool.not_false))); (try simp only [Act.put, List.setIfInBounds_toArray, List.set_cons_zero, List.set_cons_succ])) | (apply wpE_0; exact rfl; exact rfl; exact (wanted_yes rfl rfl rfl (by with_reducible rfl)); intro K hK; go_big_quiet_op; first | (refine hK _ ?_; clear hK K) | (split <;> (refine hK _ ?_; clear hK K))))))
          all_goals (apply wpE_0; exact rfl; exact rfl; exact (wanted_free rfl); intro K hK; go_big_quiet_op; first | (refine hK _ ?_; clear hK K) | (split <;> (refine hK _ ?_; clear hK K)))
          all_goals (refine wpE_nil ?_; clear hxE)
          all_goals go_wp2
          all_goals go_ret
          all_goals exact ⟨by rw [HX.out]; rfl, (by repeat (first | exact Below.refl _ _ | exact B.out | refine Below.trans ?_ (Below.mono B.out (by first | (simp; done) | (simp; omega) | omega)) | refine Below.setCell ?_ (by first | (simp; done) | (simp; omega) | (have hszq := (B.out).size; simp at hszq ⊢; omega)) _ | refine Below.alloc ?_ (by first | (simp; done) | (simp; omega) | (have hszq := (B.out).size; simp at hszq ⊢; omega)) _ | refine below_drewN ?_ _ | refine Below.drew ?_))⟩
        · have HX : Hid (enoughS l ts = (o : Int)) := Lib.hid (by rw [HE.out, HKO.out, if_neg hlt3])
          clear HE HKO
          go_wp2_with fail
          refine wp_region_early ((0, 0) :: (1, 0) :: (2, 0) :: (3, 0) :: (4, 0) :: (6, 0) :: (7, 0) :: (8, 0) :: (9, 0) :: (10, 1) :: (5, 2) :: (11, 0) :: (12, 0) :: []) (by kernel_rfl) (by kernel_rfl) (fun _ _ d _ _ h => by cases d <;> exact h) ?_
          have hxE := @ExtN.cell (wr.heap.size)
          all_goals (apply wpE_0; exact rfl; exact rfl; exact (wanted_free rfl); intro K hK; go_big_quiet_op; first | (refine hK _ ?_; clear hK K) | (split <;> (refine hK _ ?_; clear hK K)))
          all_goals (apply wpE_0; exact rfl; exact rfl; exact (wanted_free rfl); intro K hK; go_big_quiet_op; first | (refine hK _ ?_; clear hK K) | (split <;> (refine hK _ ?_; clear hK K)))
          all_goals (apply wpE_0; exact rfl; exact rfl; exact (wanted_free rfl); intro K hK; go_big_quiet_op; first | (refine hK _ ?_; clear hK K) | (split <;> (refine hK _ ?_; clear hK K)))
          all_goals (first | (apply wpE_no; exact rfl; exact (wanted_no rfl rfl rfl (by with_reducible (first | exact Bool.not_true | exact Bool.not_false))); (try simp only [Act.put, List.setIfInBounds_toArray, List.set_cons_zero, List.set_cons_succ])) | (apply wpE_0; exact rfl; exact rfl; exact (wanted_yes rfl rfl rfl (by with_reducible rfl)); intro K hK; go_big_quiet_op; first | (refine hK _ ?_; clear hK K) | (split <;> (refine hK _ ?_; clear hK K))) | (apply wpE_split; exact rfl; exact rfl; exact rfl; exact rfl; all_goals (intro hB; simp only [hB]; (try simp only [Bool.or_eq_true, Bool.and_eq_true, Bool.or_eq_false_iff, Bool.and_eq_false_iff, Bool.not_eq_true', Bool.not_eq_false', decide_eq_true_eq, decide_eq_false_iff_not, bne_iff_ne, beq_iff_eq] at hB); first | (exfalso; omega) | (apply wpE_no; exact rfl; exact (wanted_no rfl rfl rfl (by with_reducible (first | exact Bool.not_true | exact Bool.not_false))); (try simp only [Act.put, List.setIfInBounds_toArray, List.set_cons_zero, List.set_cons_succ])) | (apply wpE_0; exact rfl; exact rfl; exact (wanted_yes rfl rfl rfl (by with_reducible rfl)); intro K hK; go_big_quiet_op; first | (refine hK _ ?_; clear hK K) | (split <;> (refine hK _ ?_; clear hK K))))))
          all_goals (first | (apply wpE_no; exact rfl; exact (wanted_no rfl rfl rfl (by with_reducible (first | exact Bool.not_true | exact Bool.not_false))); (try simp only [Act.put, List.setIfInBounds_toArray, List.set_cons_zero, List.set_cons_succ])) | (apply wpE_0; exact rfl; exact rfl; exact (wanted_yes rfl rfl rfl (by with_reducible rfl)); intro K hK; go_big_quiet_op; first | (refine hK _ ?_; clear hK K) | (split <;> (refine hK _ ?_; clear hK K))) | (apply wpE_split; exact rfl; exact rfl; exact rfl; exact rfl; all_goals (intro hB; simp only [hB]; (try simp only [Bool.or_eq_true, Bool.and_eq_true, Bool.or_eq_false_iff, Bool.and_eq_false_iff, Bool.not_eq_true', Bool.not_eq_false', decide_eq_true_eq, decide_eq_false_iff_not, bne_iff_ne, beq_iff_eq] at hB); first | (exfalso; omega) | (apply wpE_no; exact rfl; exact (wanted_no rfl rfl rfl (by with_reducible (first | exact Bool.not_true | exact Bool.not_false))); (try simp only [Act.put, List.setIfInBounds_toArray, List.set_cons_zero, List.set_cons_succ])) | (apply wpE_0; exact rfl; exact rfl; exact (wanted_yes rfl rfl rfl (by with_reducible rfl)); intro K hK; go_big_quiet_op; first | (refine hK _ ?_; clear hK K) | (split <;> (refine hK _ ?_; clear hK K))))))
          all_goals (first | (apply wpE_no; exact rfl; exact (wanted_no rfl rfl rfl (by with_reducible (first | exact Bool.not_true | exact Bool.not_false))); (try simp only [Act.put, List.setIfInBounds_toArray, List.set_cons_zero, List.set_cons_succ])) | (apply wpE_0; exact rfl; exact rfl; exact (wanted_yes rfl rfl rfl (by with_reducible rfl)); intro K hK; go_big_quiet_op; first | (refine hK _ ?_; clear hK K) | (split <;> (refine hK _ ?_; clear hK K))) | (apply wpE_split; exact rfl; exact rfl; exact rfl; exact rfl; all_goals (intro hB; simp only [hB]; (try simp only [Bool.or_eq_true, Bool.and_eq_true, Bool.or_eq_false_iff, Bool.and_eq_false_iff, Bool.not_eq_true', Bool.not_eq_false', decide_eq_true_eq, decide_eq_false_iff_not, bne_iff_ne, beq_iff_eq] at hB); first | (exfalso; omega) | (apply wpE_no; exact rfl; exact (wanted_no rfl rfl rfl (by with_reducible (first | exact Bool.not_true | exact Bool.not_false))); (try simp only [Act.put, List.setIfInBounds_toArray, List.set_cons_zero, List.set_cons_succ])) | (apply wpE_0; exact rfl; exact rfl; exact (wanted_yes rfl rfl rfl (by with_reducible rfl)); intro K hK; go_big_quiet_op; first | (refine hK _ ?_; clear hK K) | (split <;> (refine hK _ ?_; clear hK K))))))
          all_goals (first | (apply wpE_no; exact rfl; exact (wanted_no rfl rfl rfl (by with_reducible (first | exact Bool.not_true | exact Bool.not_false))); (try simp only [Act.put, List.setIfInBounds_toArray, List.set_cons_zero, List.set_cons_succ])) | (apply wpE_0; exact rfl; exact rfl; exact (wanted_yes rfl rfl rfl (by with_reducible rfl)); intro K hK; go_big_quiet_op; first | (refine hK _ ?_; clear hK K) | (split <;> (refine hK _ ?_; clear hK K))) | (apply wpE_split; exact rfl; exact rfl; exact rfl; exact rfl; all_goals (intro hB; simp only [hB]; (try simp only [Bool.or_eq_true, Bool.and_eq_true, Bool.or_eq_false_iff, Bool.and_eq_false_iff, Bool.not_eq_true', Bool.not_eq_false', decide_eq_true_eq, decide_eq_false_iff_not, bne_iff_ne, beq_iff_eq] at hB); first | (exfalso; omega) | (apply wpE_no; exact rfl; exact (wanted_no rfl rfl rfl (by with_reducible (first | exact Bool.not_true | exact Bool.not_false))); (try simp only [Act.put, List.setIfInBounds_toArray, List.set_cons_zero, List.set_cons_succ])) | (apply wpE_0; exact rfl; exact rfl; exact (wanted_yes rfl rfl rfl (by with_reducible rfl)); intro K hK; go_big_quiet_op; first | (refine hK _ ?_; clear hK K) | (split <;> (refine hK _ ?_; clear hK K))))))
          all_goals (first | (apply wpE_no; exact rfl; exact (wanted_no rfl rfl rfl (by with_reducible (first | exact Bool.not_true | exact Bool.not_false))); (try simp only [Act.put, List.setIfInBounds_toArray, List.set_cons_zero, List.set_cons_succ])) | (apply wpE_0; exact rfl; exact rfl; exact (wanted_yes rfl rfl rfl (by with_reducible rfl)); intro K hK; go_big_quiet_op; first | (refine hK _ ?_; clear hK K) | (split <;> (refine hK _ ?_; clear hK K))) | (apply wpE_split; exact rfl; exact rfl; exact rfl; exact rfl; all_goals (intro hB; simp only [hB]; (try simp only [Bool.or_eq_true, Bool.and_eq_true, Bool.or_eq_false_iff, Bool.and_eq_false_iff, Bool.not_eq_true', Bool.not_eq_false', decide_eq_true_eq, decide_eq_false_iff_not, bne_iff_ne, beq_iff_eq] at hB); first | (exfalso; omega) | (apply wpE_no; exact rfl; exact (wanted_no rfl rfl rfl (by with_reducible (first | exact Bool.not_true | exact Bool.not_false))); (try simp only [Act.put, List.setIfInBounds_toArray, List.set_cons_zero, List.set_cons_succ])) | (apply wpE_0; exact rfl; exact rfl; exact (wanted_yes rfl rfl rfl (by with_reducible rfl)); intro K hK; go_big_quiet_op; first | (refine hK _ ?_; clear hK K) | (split <;> (refine hK _ ?_; clear hK K))))))
          all_goals (first | (apply wpE_no; exact rfl; exact (wanted_no rfl rfl rfl (by with_reducible (first | exact Bool.not_true | exact Bool.not_false))); (try simp only [Act.put, List.setIfInBounds_toArray, List.set_cons_zero, List.set_cons_succ])) | (apply wpE_0; exact rfl; exact rfl; exact (wanted_yes rfl rfl rfl (by with_reducible rfl)); intro K hK; go_big_quiet_op; first | (refine hK _ ?_; clear hK K) | (split <;> (refine hK _ ?_; clear hK K))) | (apply wpE_split; exact rfl; exact rfl; exact rfl; exact rfl; all_goals (intro hB; simp only [hB]; (try simp only [Bool.or_eq_true, Bool.and_eq_true, Bool.or_eq_false_iff, Bool.and_eq_false_iff, Bool.not_eq_true', Bool.not_eq_false', decide_eq_true_eq, decide_eq_false_iff_not, bne_iff_ne, beq_iff_eq] at hB); first | (exfalso; omega) | (apply wpE_no; exact rfl; exact (wanted_no rfl rfl rfl (by with_reducible (first | exact Bool.not_true | exact Bool.not_false))); (try simp only [Act.put, List.setIfInBounds_toArray, List.set_cons_zero, List.set_cons_succ])) | (apply wpE_0; exact rfl; exact rfl; exact (wanted_yes rfl rfl rfl (by with_reducible rfl)); intro K hK; go_big_quiet_op; first | (refine hK _ ?_; clear hK K) | (split <;> (refine hK _ ?_; clear hK K))))))
          all_goals (first | (apply wpE_no; exact rfl; exact (wanted_no rfl rfl rfl (by with_reducible (first | exact Bool.not_true | exact Bool.not_false))); (try simp only [Act.put, List.setIfInBounds_toArray, List.set_cons_zero, List.set_cons_succ])) | (apply wpE_1 (wr.heap.size) (by first | exact Nat.le_refl _ | assumption | (simp; done) | (simp; omega) | omega); exact rfl; exact rfl; exact (wanted_yes rfl rfl rfl (by with_reducible rfl)); intro K hK; go_big_quiet_op; first | (refine hK _ ?_; clear hK K) | (split <;> (refine hK _ ?_; clear hK K))) | (apply wpE_split; exact rfl; exact rfl; exact rfl; exact rfl; all_goals (intro hB; simp only [hB]; (try simp only [Bool.or_eq_true, Bool.and_eq_true, Bool.or_eq_false_iff, Bool.and_eq_false_iff, Bool.not_eq_true', Bool.not_eq_false', decide_eq_true_eq, decide_eq_false_iff_not, bne_iff_ne, beq_iff_eq] at hB); first | (exfalso; omega) | (apply wpE_no; exact rfl; exact (wanted_no rfl rfl rfl (by with_reducible (first | exact Bool.not_true | exact Bool.not_false))); (try simp only [Act.put, List.setIfInBounds_toArray, List.set_cons_zero, List.set_cons_succ])) | (apply wpE_1 (wr.heap.size) (by first | exact Nat.le_refl _ | assumption | (simp; done) | (simp; omega) | omega); exact rfl; exact rfl; exact (wanted_yes rfl rfl rfl (by with_reducible rfl)); intro K hK; go_big_quiet_op; first | (refine hK _ ?_; clear hK K) | (split <;> (refine hK _ ?_; clear hK K))))))
          all_goals (apply wpE_2; exact rfl; intro K hK; go_simp; first | (refine hK _ _ (by first | exact Ext.refl _ | exact ext_alloc _ _ | exact ext_alloc_drew _ _) ?_; clear hK K) | (refine (distinct_ref _ ps _ _ (PP.out.mono (by exact (by repeat (first | exact Below.refl _ _ | refine Below.setCell ?_ (by first | (simp; done) | (simp; omega)) _ | refine Below.alloc ?_ (by first | (simp; done) | (simp; omega)) _ | refine below_drewN ?_ _ | refine Below.drew ?_)))) hpl).mono ?_; rintro e w6 ⟨rfl, nq, rfl⟩; refine hK _ _ (below_drewN' _ _) ?_; clear hK K))
          all_goals (first | (apply wpE_no; exact rfl; exact (wanted_no rfl rfl rfl (by with_reducible (first | exact Bool.not_true | exact Bool.not_false))); (try simp only [Act.put, List.setIfInBounds_toArray, List.set_cons_zero, List.set_cons_succ])) | (apply wpE_0; exact rfl; exact rfl; exact (wanted_yes rfl rfl rfl (by with_reducible rfl)); intro K hK; go_big_quiet_op; first | (refine hK _ ?_; clear hK K) | (split <;> (refine hK _ ?_; clear hK K))) | (apply wpE_split; exact rfl; exact rfl; exact rfl; exact rfl; all_goals (intro hB; simp only [hB]; (try simp only [Bool.or_eq_true, Bool.and_eq_true, Bool.or_eq_false_iff, Bool.and_eq_false_iff, Bool.not_eq_true', Bool.not_eq_false', decide_eq_true_eq, decide_eq_false_iff_not, bne_iff_ne, beq_iff_eq] at hB); first | (exfalso; omega) | (apply wpE_no; exact rfl; exact (wanted_no rfl rfl rfl (by with_reducible (first | exact Bool.not_true | exact Bool.not_false))); (try simp only [Act.put, List.setIfInBounds_toArray, List.set_cons_zero, List.set_cons_succ])) | (apply wpE_0; exact rfl; exact rfl; exact (wanted_yes rfl rfl rfl (by with_reducible rfl)); intro K hK; go_big_quiet_op; first | (refine hK _ ?_; clear hK K) | (split <;> (refine hK _ ?_; clear hK K))))))
          all_goals (apply wpE_0; exact rfl; exact rfl; exact (wanted_free rfl); intro K hK; go_big_quiet_op; first | (refine hK _ ?_; clear hK K) | (split <;> (refine hK _ ?_; clear hK K)))
          all_goals (refine wpE_nil ?_; clear hxE)
          all_goals go_wp2
          all_goals go_ret
          all_goals exact ⟨by rw [HX.out]; rfl, (by repeat (first | exact Below.refl _ _ | exact B.out | refine Below.trans ?_ (Below.mono B.out (by first | (simp; done) | (simp; omega) | omega)) | refine Below.setCell ?_ (by first | (simp; done) | (simp; omega) | (have hszq := (B.out).size; simp at hszq ⊢; omega)) _ | refine Below.alloc ?_ (by first | (simp; done) | (simp; omega) | (have hszq := (B.out).size; simp at hszq ⊢; omega)) _ | refine below_drewN ?_ _ | refine Below.drew ?_))⟩
end Go.Proofs.YtmiokpcolpcbaaaGreatDoor
