/- Distinct, of attack and of the reference. -/
import Derived.Test.YtmiokpcolpcbaaaGreatDoorRep
import Derived.Maps.OwnSet
namespace Go.Proofs.YtmiokpcolpcbaaaGreatDoor
open Go.RowKit Go.Maps

def distR : List (Int × Int) → Int → Nat
  | [], _ => 0
  | p :: r, o => distR r o + (if p.1 = o ∧ p ∉ r then 1 else 0)
/-- How many unlike pieces of an object there are. -/
def distN (g : List (Int × Int)) (o : Int) : Nat := distR g.reverse o
theorem distN_succ {g : List (Int × Int)} {k : Nat} {p : Int × Int} (hk : g[k]? = some p) (o : Int) : distN (g.take (k + 1)) o = distN (g.take k) o + (if p.1 = o ∧ p ∉ g.take k then 1 else 0) := by
  unfold distN
  rw [List.take_add_one, hk]
  simp [distR]
theorem distN_le (g : List (Int × Int)) (o : Int) : distN g o ≤ g.length := by
  have : ∀ l : List (Int × Int), distR l o ≤ l.length := by
    intro l
    induction l with
    | nil => simp [distR]
    | cons a l ih => simp only [distR, List.length_cons]; split <;> omega
  unfold distN
  simpa using this g.reverse

theorem wf64 {x : Int} (h : i64ok x) : (Lit.int .i64 x).wf = true := by
  simp only [Lit.wf, Bool.and_eq_true, decide_eq_true_eq]
  exact ⟨h.1, h.2⟩
theorem keyed3 : Keyed Tryz.prog 3 := int_keyed Tryz.underlying3

set_option maxRecDepth 100000 in
set_option maxHeartbeats 1000000 in
theorem distinct_att (v : Value) (g : List (Int × Int)) (o : Int) (w : World) (h : Pieces w v g) (hm : g.length ≤ 1000000) :
    Calls Tryz.prog 11 #[v, .int .i64 o] w fun e w' => e = .returned (.int .i64 (distN g o)) ∧ Below w.heap.size w w' := by
  have hmm := @run_makeMap Tryz.prog
  obtain ⟨a, cap, rfl, _⟩ := h.2
  go_enter Tryz.func11, Tryz.ntmps11
  go_wp2
  go_loopw [11] (fun i wr => ∃ (k : Nat) (D : DataW Unit), k ≤ g.length ∧ i = .int .i64 k ∧ wr.ownsMap Tryz.prog 3 (plainElem Tryz.prog 4) w.heap.size k D ∧ Maps.size D = distN (g.take k) o ∧
    (∀ x, has D (.int .i64 x) = decide ((o, x) ∈ g.take k)) ∧ Below w.heap.size w wr) (fun i _ => g.length - (intOf i).toNat)
  case atStart => exact ⟨0, .map [], Nat.zero_le _, rfl, World.ownsMap_made _ _ _ _, rfl, by simp [has], (Below.refl _ _).alloc (Nat.le_refl _) _⟩
  case round =>
    obtain ⟨k, D, hk, rfl, hown, hsz, hhas, hw⟩ := hrel
    have HH := Lib.hid hhas
    have HS := Lib.hid hsz
    clear hhas hsz
    by_cases hlt : k < g.length
    · have hkk : g[k]? = some g[k] := by simp [hlt]
      obtain ⟨_, a', cap', e, hO⟩ := h.mono hw
      cases e
      obtain ⟨b, off, rfl, hb, c1, c2, c3, c4⟩ := hO k g[k] hkk
      clear hO
      generalize g[k] = p at *
      obtain ⟨p1, p2⟩ := p
      simp only at c1 c2 c3 c4
      have HK := Lib.hid hkk
      have hkey : keyOf Tryz.prog 3 (.int .i64 p2) = some (.int .i64 p2) := keyOf_int_mk Tryz.underlying3 (wf64 c4)
      by_cases ho : p1 = o
      · subst ho
        go_wp2_with (at_mapUpdate; refine wpList_mapUpdate_own _ rfl _ _ _ 77 rfl 3 4 keyed3 Tryz.underlying77 (plainElem (H := Unit) Tryz.prog 4) w.heap.size k _ rfl (hown.alloc _) (by unfold maxLen; clear c4 c3; omega) _ _ _ rfl rfl hkey _ _ (plainElem_bool Tryz.underlying4 true) ?_; intro w2 own2 gr2)
        go_roundw
        case rel =>
          have hs := HS.out
          have hh := HH.out
          have ht : Tidy D := hown.tidy keyed3
          refine ⟨k + 1, _, by omega, by go_num, own2, ?_, ?_, ?_⟩
          · rw [size_put ht, distN_succ hkk, hs, hh p2]
            by_cases hin : (p1, p2) ∈ g.take k
            · simp [hin]
            · simp [hin]
          · intro x
            rw [List.take_add_one, hkk]
            by_cases hx : x = p2
            · subst hx
              rw [has_put_same ht.isMap (by simp [WideAt.IsKeyLit])]
              simp
            · rw [has_put_other (by simpa using hx), hh x]
              simp [hx]
          · exact (hw.alloc hw.size _).grown gr2 (by have := hw.size; simp; omega) (by intro j hj; cases hj; exact Nat.le_refl _)
        case measure => simp [intOf]; omega
      · go_wp2
        go_roundw
        case rel =>
          have hs := HS.out
          have hh := HH.out
          refine ⟨k + 1, D, by omega, by go_num, (hown.alloc _).mono (Nat.le_succ _), ?_, ?_, (by repeat (first | exact Below.refl _ _ | exact hw | refine Below.trans ?_ (Below.mono hw (by first | (simp; done) | (simp; omega) | omega)) | refine Below.setCell ?_ (by first | (simp; done) | (simp; omega) | (have hszq := (hw).size; simp at hszq ⊢; omega)) _ | refine Below.alloc ?_ (by first | (simp; done) | (simp; omega) | (have hszq := (hw).size; simp at hszq ⊢; omega)) _ | refine below_drewN ?_ _ | refine Below.drew ?_))⟩
          · rw [distN_succ hkk, hs]; simp [ho]
          · intro x
            rw [List.take_add_one, hkk, hh x]
            simp [Ne.symm ho]
        case measure => simp [intOf]; omega
    · have hke : k = g.length := by omega
      subst hke
      have hs := HS.out
      rw [List.take_length] at hs
      go_wp2_with (at_len; refine wpList_len_own _ rfl _ _ rfl 3 4 Tryz.underlying77 _ _ _ _ rfl hown ?_)
      go_ret
      exact ⟨by rw [← hs]; rfl, hw⟩

/-- .. of what stands ahead, whether one is among it. -/
theorem mem_take_succ {g : List (Int × Int)} {j : Nat} {q p : Int × Int} (hj : g[j]? = some q) : p ∈ g.take (j + 1) ↔ p ∈ g.take j ∨ p = q := by
  rw [List.take_add_one, hj]; simp

set_option maxRecDepth 100000 in
set_option maxHeartbeats 2000000 in
theorem distinct_ref (v : Value) (g : List (Int × Int)) (o : Int) (w : World) (h : Pieces w v g) (hm : g.length ≤ 1000000) :
    Calls Tryz.prog 12 #[v, .int .i64 o] w fun e w' => e = .returned (.int .i64 (distN g o)) ∧ ∃ n, w' = w.drewN n := by
  obtain ⟨a, cap, rfl, hO⟩ := h.2
  clear h
  go_enter Tryz.func12, Tryz.ntmps12
  go_wp2
  go_loopw [6, 5] (fun i m wr => ∃ k : Nat, k ≤ g.length ∧ i = .int .i64 k ∧ m = .int .i64 (distN (g.take k) o) ∧ ∃ n, wr = w.drewN n) (fun i _ _ => g.length - (intOf i).toNat)
  case atStart => exact ⟨0, Nat.zero_le _, rfl, rfl, (by first | exact ⟨0, rfl⟩ | exact ⟨_, rfl⟩ | exact ⟨_, World.drewN_drewN _ _ _⟩ | exact ⟨_ + 1, rfl⟩)⟩
  case round =>
    obtain ⟨k, hk, rfl, rfl, nw, rfl⟩ := hrel
    by_cases hlt : k < g.length
    · have hkk : g[k]? = some g[k] := by simp [hlt]
      have hdl := distN_le (g.take k) o
      have hdk : (g.take k).length ≤ k := by rw [List.length_take]; omega
      obtain ⟨b, off, rfl, hb, c1, c2, c3, c4⟩ := hO k g[k] hkk
      generalize g[k] = p at *
      have HD := Lib.hid (distN_succ hkk o)
      generalize distN (g.take k) o = m at *
      have HO := Lib.hid hO
      clear hO
      go_wp2
      go_loopw [8, 7] (fun j f wr => ∃ j' : Nat, j' ≤ k ∧ j = .int .i64 j' ∧ f = .bool (p.1 == o && decide (p ∉ g.take j')) ∧ ∃ n, wr = w.drewN n) (fun j _ _ => k - (intOf j).toNat)
      case atStart => exact ⟨0, Nat.zero_le _, rfl, by simp, (by first | exact ⟨0, rfl⟩ | exact ⟨_, rfl⟩ | exact ⟨_, World.drewN_drewN _ _ _⟩ | exact ⟨_ + 1, rfl⟩)⟩
      case round =>
        obtain ⟨j, hj, rfl, rfl, nw, rfl⟩ := hrel
        by_cases hlt2 : j < k
        · have hjj : g[j]? = some (g[j]'(by omega)) := by simp
          obtain ⟨b2, off2, e2, hb2, d1, d2, d3, d4⟩ := HO.out j (g[j]'(by omega)) hjj
          cases e2
          generalize g[j]'(by omega) = q at *
          have HJ := Lib.hid (mem_take_succ (p := p) hjj)
          clear hjj
          obtain ⟨q1, q2⟩ := q
          obtain ⟨p1, p2⟩ := p
          simp only at c1 c2 d1 d2 c3 d3 c4 d4
          by_cases hq1 : q1 = p1
          · subst hq1
            by_cases hq2 : q2 = p2
            · subst hq2
              go_wp2_with fail
              refine wp_region_early ((0, 0) :: (1, 0) :: (2, 0) :: (3, 1) :: (4, 0) :: (5, 0) :: (6, 0) :: (7, 1) :: (8, 0) :: []) (by kernel_rfl) (by kernel_rfl) (fun _ _ d _ _ h => by cases d <;> exact h) ?_
              have hxE := @ExtN.cell (w.heap.size)
              all_goals (apply wpE_0; exact rfl; exact rfl; exact (wanted_free rfl); intro K hK; go_big_quiet_op; first | (refine hK _ ?_; clear hK K) | (split <;> (refine hK _ ?_; clear hK K)))
              all_goals (apply wpE_0; exact rfl; exact rfl; exact (wanted_free rfl); intro K hK; go_big_quiet_op; first | (refine hK _ ?_; clear hK K) | (split <;> (refine hK _ ?_; clear hK K)))
              all_goals (apply wpE_0; exact rfl; exact rfl; exact (wanted_free rfl); intro K hK; go_big_quiet_op; first | (refine hK _ ?_; clear hK K) | (split <;> (refine hK _ ?_; clear hK K)))
              all_goals (apply wpE_1 (w.heap.size) (by first | exact Nat.le_refl _ | assumption | (simp; done) | (simp; omega) | omega); exact rfl; exact rfl; exact (wanted_free rfl); intro K hK; go_big_quiet_op; first | (refine hK _ ?_; clear hK K) | (split <;> (refine hK _ ?_; clear hK K)))
              all_goals (apply wpE_0; exact rfl; exact rfl; exact (wanted_free rfl); intro K hK; go_big_quiet_op; first | (refine hK _ ?_; clear hK K) | (split <;> (refine hK _ ?_; clear hK K)))
              all_goals (apply wpE_0; exact rfl; exact rfl; exact (wanted_free rfl); intro K hK; go_big_quiet_op; first | (refine hK _ ?_; clear hK K) | (split <;> (refine hK _ ?_; clear hK K)))
              all_goals (apply wpE_0; exact rfl; exact rfl; exact (wanted_free rfl); intro K hK; go_big_quiet_op; first | (refine hK _ ?_; clear hK K) | (split <;> (refine hK _ ?_; clear hK K)))
              all_goals (apply wpE_1 (w.heap.size) (by first | exact Nat.le_refl _ | assumption | (simp; done) | (simp; omega) | omega); exact rfl; exact rfl; exact (wanted_free rfl); intro K hK; go_big_quiet_op; first | (refine hK _ ?_; clear hK K) | (split <;> (refine hK _ ?_; clear hK K)))
              all_goals (apply wpE_0; exact rfl; exact rfl; exact (wanted_free rfl); intro K hK; go_big_quiet_op; first | (refine hK _ ?_; clear hK K) | (split <;> (refine hK _ ?_; clear hK K)))
              all_goals (refine wpE_nil ?_; clear hxE)
              go_wp2
              go_roundw
              case rel => exact ⟨j + 1, by omega, by go_num, by simp [HJ.out], (by first | exact ⟨0, rfl⟩ | exact ⟨_, rfl⟩ | exact ⟨_, World.drewN_drewN _ _ _⟩ | exact ⟨_ + 1, rfl⟩)⟩
              case measure => simp [intOf]; omega
            · go_wp2_with fail
              refine wp_region_early ((0, 0) :: (1, 0) :: (2, 0) :: (3, 1) :: (4, 0) :: (5, 0) :: (6, 0) :: (7, 1) :: (8, 0) :: []) (by kernel_rfl) (by kernel_rfl) (fun _ _ d _ _ h => by cases d <;> exact h) ?_
              have hxE := @ExtN.cell (w.heap.size)
              all_goals (apply wpE_0; exact rfl; exact rfl; exact (wanted_free rfl); intro K hK; go_big_quiet_op; first | (refine hK _ ?_; clear hK K) | (split <;> (refine hK _ ?_; clear hK K)))
              all_goals (apply wpE_0; exact rfl; exact rfl; exact (wanted_free rfl); intro K hK; go_big_quiet_op; first | (refine hK _ ?_; clear hK K) | (split <;> (refine hK _ ?_; clear hK K)))
              all_goals (apply wpE_0; exact rfl; exact rfl; exact (wanted_free rfl); intro K hK; go_big_quiet_op; first | (refine hK _ ?_; clear hK K) | (split <;> (refine hK _ ?_; clear hK K)))
              all_goals (apply wpE_1 (w.heap.size) (by first | exact Nat.le_refl _ | assumption | (simp; done) | (simp; omega) | omega); exact rfl; exact rfl; exact (wanted_free rfl); intro K hK; go_big_quiet_op; first | (refine hK _ ?_; clear hK K) | (split <;> (refine hK _ ?_; clear hK K)))
              all_goals (apply wpE_0; exact rfl; exact rfl; exact (wanted_free rfl); intro K hK; go_big_quiet_op; first | (refine hK _ ?_; clear hK K) | (split <;> (refine hK _ ?_; clear hK K)))
              all_goals (apply wpE_0; exact rfl; exact rfl; exact (wanted_free rfl); intro K hK; go_big_quiet_op; first | (refine hK _ ?_; clear hK K) | (split <;> (refine hK _ ?_; clear hK K)))
              all_goals (apply wpE_0; exact rfl; exact rfl; exact (wanted_free rfl); intro K hK; go_big_quiet_op; first | (refine hK _ ?_; clear hK K) | (split <;> (refine hK _ ?_; clear hK K)))
              all_goals (apply wpE_1 (w.heap.size) (by first | exact Nat.le_refl _ | assumption | (simp; done) | (simp; omega) | omega); exact rfl; exact rfl; exact (wanted_free rfl); intro K hK; go_big_quiet_op; first | (refine hK _ ?_; clear hK K) | (split <;> (refine hK _ ?_; clear hK K)))
              all_goals (apply wpE_0; exact rfl; exact rfl; exact (wanted_free rfl); intro K hK; go_big_quiet_op; first | (refine hK _ ?_; clear hK K) | (split <;> (refine hK _ ?_; clear hK K)))
              all_goals (refine wpE_nil ?_; clear hxE)
              go_wp2
              go_roundw
              case rel => exact ⟨j + 1, by omega, by go_num, by simp [HJ.out, Ne.symm hq2], (by first | exact ⟨0, rfl⟩ | exact ⟨_, rfl⟩ | exact ⟨_, World.drewN_drewN _ _ _⟩ | exact ⟨_ + 1, rfl⟩)⟩
              case measure => simp [intOf]; omega
          · go_wp2_with fail
            refine wp_region_early ((0, 0) :: (1, 0) :: (2, 0) :: (3, 1) :: (4, 0) :: (5, 0) :: (6, 0) :: (7, 1) :: (8, 0) :: []) (by kernel_rfl) (by kernel_rfl) (fun _ _ d _ _ h => by cases d <;> exact h) ?_
            have hxE := @ExtN.cell (w.heap.size)
            all_goals (apply wpE_0; exact rfl; exact rfl; exact (wanted_free rfl); intro K hK; go_big_quiet_op; first | (refine hK _ ?_; clear hK K) | (split <;> (refine hK _ ?_; clear hK K)))
            all_goals (apply wpE_0; exact rfl; exact rfl; exact (wanted_free rfl); intro K hK; go_big_quiet_op; first | (refine hK _ ?_; clear hK K) | (split <;> (refine hK _ ?_; clear hK K)))
            all_goals (apply wpE_0; exact rfl; exact rfl; exact (wanted_free rfl); intro K hK; go_big_quiet_op; first | (refine hK _ ?_; clear hK K) | (split <;> (refine hK _ ?_; clear hK K)))
            all_goals (apply wpE_1 (w.heap.size) (by first | exact Nat.le_refl _ | assumption | (simp; done) | (simp; omega) | omega); exact rfl; exact rfl; exact (wanted_free rfl); intro K hK; go_big_quiet_op; first | (refine hK _ ?_; clear hK K) | (split <;> (refine hK _ ?_; clear hK K)))
            all_goals (apply wpE_0; exact rfl; exact rfl; exact (wanted_free rfl); intro K hK; go_big_quiet_op; first | (refine hK _ ?_; clear hK K) | (split <;> (refine hK _ ?_; clear hK K)))
            all_goals (apply wpE_0; exact rfl; exact rfl; exact (wanted_free rfl); intro K hK; go_big_quiet_op; first | (refine hK _ ?_; clear hK K) | (split <;> (refine hK _ ?_; clear hK K)))
            all_goals (apply wpE_0; exact rfl; exact rfl; exact (wanted_free rfl); intro K hK; go_big_quiet_op; first | (refine hK _ ?_; clear hK K) | (split <;> (refine hK _ ?_; clear hK K)))
            all_goals (apply wpE_1 (w.heap.size) (by first | exact Nat.le_refl _ | assumption | (simp; done) | (simp; omega) | omega); exact rfl; exact rfl; exact (wanted_free rfl); intro K hK; go_big_quiet_op; first | (refine hK _ ?_; clear hK K) | (split <;> (refine hK _ ?_; clear hK K)))
            all_goals (apply wpE_0; exact rfl; exact rfl; exact (wanted_free rfl); intro K hK; go_big_quiet_op; first | (refine hK _ ?_; clear hK K) | (split <;> (refine hK _ ?_; clear hK K)))
            all_goals (refine wpE_nil ?_; clear hxE)
            go_wp2
            go_roundw
            case rel => exact ⟨j + 1, by omega, by go_num, by simp [HJ.out, Ne.symm hq1], (by first | exact ⟨0, rfl⟩ | exact ⟨_, rfl⟩ | exact ⟨_, World.drewN_drewN _ _ _⟩ | exact ⟨_ + 1, rfl⟩)⟩
            case measure => simp [intOf]; omega
        · have : j = k := by omega
          subst this
          go_wp2
          · go_roundw
            case rel =>
              have hd := HD.out
              rename_i hx; rw [if_pos (by simpa using hx)] at hd
              exact ⟨j + 1, by omega, by go_num, by rw [hd]; go_num, (by first | exact ⟨0, rfl⟩ | exact ⟨_, rfl⟩ | exact ⟨_, World.drewN_drewN _ _ _⟩ | exact ⟨_ + 1, rfl⟩)⟩
            case measure => simp [intOf]; omega
          · go_roundw
            case rel =>
              have hd := HD.out
              rename_i hx; rw [if_neg (by rintro ⟨g1, g2⟩; rcases hx with h1 | h1; (rw [g1] at h1; simp at h1); exact h1 g2)] at hd
              exact ⟨j + 1, by omega, by go_num, by rw [hd]; go_num, (by first | exact ⟨0, rfl⟩ | exact ⟨_, rfl⟩ | exact ⟨_, World.drewN_drewN _ _ _⟩ | exact ⟨_ + 1, rfl⟩)⟩
            case measure => simp [intOf]; omega
    · go_wp2
      go_ret
      have : k = g.length := by omega
      subst this
      rw [List.take_length]
      exact ⟨rfl, (by first | exact ⟨0, rfl⟩ | exact ⟨_, rfl⟩ | exact ⟨_, World.drewN_drewN _ _ _⟩ | exact ⟨_ + 1, rfl⟩)⟩
end Go.Proofs.YtmiokpcolpcbaaaGreatDoor
