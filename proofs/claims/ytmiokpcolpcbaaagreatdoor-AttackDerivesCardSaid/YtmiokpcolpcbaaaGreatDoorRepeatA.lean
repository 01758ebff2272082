/- slices.Repeat at one byte, thirty-two times. -/
import Derived.Test.YtmiokpcolpcbaaaGreatDoorBytesA
import Derived.Test.YtmiokpcolpcbaaaGreatDoorLib
import Derived.Test.YtmiokpcolpcbaaaGreatDoorOpenL
namespace Go.Proofs.YtmiokpcolpcbaaaGreatDoor
open Go.RowKit

theorem wp_copy {o : Oper} {a : Act} {w : World} {K : Act → World → Prop} {Q : Exit → Act → World → Prop} (d s : Operand)
    (ho : o.op = .call { callee := .builtin .copy, args := #[d, s], argTypes := #[35, 35] })
    (g off dLen dCap : Nat) (ad : Addr) (sLen sCap : Nat) (hd : a.eval d = .slice (some ⟨g, off, none⟩) dLen dCap) (hs : a.eval s = .slice (some ad) sLen sCap)
    (cur : List Value) (t : TypeId) (hg : w.heap[g]? = some (.cells cur.toArray t (0, 0))) (cs : List Value) (hn : cs.length = Nat.min sLen dLen)
    (hsrc : ∀ j v, cs[j]? = some v → w.cell? (ad.add j) = some v) (hfit : off + cs.length ≤ cur.length) (h1 : ∀ v ∈ cs, v.oneCell' = true)
    (h : ∀ w', w'.heap[g]? = some (.cells (splice cur off cs).toArray t (0, 0)) → (∀ B w0, Below B w0 w → B ≤ g → Below B w0 w') → w'.heap.size = w.heap.size → K (a.put o.dst (goInt cs.length)) w') : o.wp Tryz.prog a w K Q := by
  have hsz : (Tryz.prog.info? 5).map (·.size) = some 1 := by kernel_rfl
  have hrun := run_copy_row (P := Tryz.prog) w 35 35 o.type 5 g off dLen dCap ad sLen sCap cur.toArray t cs Tryz.underlying35 hsz hg hn hsrc (by simpa using hfit) h1
  unfold Oper.wp
  simp [execOp, ho, resolve, invoke, builtin, hd, hs, hrun, Result.andThen]
  exact h _ (by simpa [splice] using setRow_heap w g _ _ t _ hg) (fun B w0 hb hBg => below_setRow hb hBg _) (by simp [World.setRow])

theorem wpl_copy {ops : Array Oper} {rest : List Oper} {o : Oper} {a : Act} {w : World} {Q : Exit → Act → World → Prop} (hgd : o.guard = none) (d s : Operand)
    (ho : o.op = .call { callee := .builtin .copy, args := #[d, s], argTypes := #[35, 35] })
    (g off dLen dCap : Nat) (ad : Addr) (sLen sCap : Nat) (hd : a.eval d = .slice (some ⟨g, off, none⟩) dLen dCap) (hs : a.eval s = .slice (some ad) sLen sCap)
    (cur : List Value) (t : TypeId) (hg : w.heap[g]? = some (.cells cur.toArray t (0, 0))) (cs : List Value) (hn : cs.length = Nat.min sLen dLen)
    (hsrc : ∀ j v, cs[j]? = some v → w.cell? (ad.add j) = some v) (hfit : off + cs.length ≤ cur.length) (h1 : ∀ v ∈ cs, v.oneCell' = true)
    (h : ∀ w', w'.heap[g]? = some (.cells (splice cur off cs).toArray t (0, 0)) → (∀ B w0, Below B w0 w → B ≤ g → Below B w0 w') → w'.heap.size = w.heap.size → wpList Tryz.prog ops Q rest (a.put o.dst (goInt cs.length)) w') : wpList Tryz.prog ops Q (o :: rest) a w :=
  wpList_plain hgd fun _ hK => wp_copy d s ho g off dLen dCap ad sLen sCap hd hs cur t hg cs hn hsrc hfit h1 fun w' h2 h3 h4 => hK _ _ (h w' h2 h3 h4)
theorem splice_rep {x z : Value} {m k : Nat} (hk : k ≤ 32 - m) : splice (List.replicate m x ++ List.replicate (32 - m) z) m (List.replicate k x) = List.replicate (m + k) x ++ List.replicate (32 - (m + k)) z := by
  unfold splice
  rw [List.take_left' (by simp), ← List.append_assoc, List.replicate_append_replicate]
  congr 1
  rw [List.drop_append]
  simp
  omega

set_option maxRecDepth 100000 in
set_option maxHeartbeats 2000000 in
theorem repeat_any (v : Value) (x : UInt8) (w : World) (h : Bytes w v [x]) :
    Calls Tryz.prog 67 #[v, .int .i64 32] w fun e w' => ∃ av, e = .returned av ∧ OwnsB w' w.heap.size av (List.replicate 32 x) ∧ Below w.heap.size w w' := by
  obtain ⟨a, cap, rfl, hcap⟩ := h.split
  obtain ⟨b, off, rfl, hb, hc⟩ := h.get (i := 0) (t := x) rfl
  simp only [Nat.add_zero] at hc
  obtain ⟨Z, hZ⟩ : ∃ Z : List Value, Z = List.replicate 32 (Value.int .u8 0) := ⟨_, rfl⟩
  have hmk : ∀ w : World, (Instr.makeSlice 35 (.int .i64 32) (.int .i64 32)).run Tryz.prog w = .ok (.slice (some ⟨w.heap.size, 0, none⟩) 32 32) (w.alloc (.cells Z.toArray 5)) := fun w => by
    have h1 := run_make_row' (P := Tryz.prog) 35 5 (.int .u8 0) 1 Tryz.underlying35 infoByte rfl .i64 .i64 32 (by decide) (by decide) w
    have h2 : madeCells #[Value.int .u8 0] 32 = Z.toArray := by rw [hZ]; kernel_rfl
    rw [h2] at h1
    exact h1
  have HZ := Lib.hid hZ
  clear hZ
  go_enter Tryz.func67, Tryz.ntmps67
  go_wp2_with fail
  refine (Tryz.bits_Mul 1 32 (by decide) (by decide) _).mono ?_
  rintro e w' ⟨rfl, rfl⟩
  have hsrc : ∀ (j : Nat) (v : Value), [bv x][j]? = some v → (w'.alloc (.cells Z.toArray 5)).cell? ((⟨b, off, none⟩ : Addr).add j) = some v := fun j v hj => by
    cases j with
    | zero => simp at hj; subst hj; rw [addr_add0]; exact Lib.cell?_alloc_some _ hc
    | succ j => simp at hj
  have HS := Lib.hid hsrc
  have hzl : Z.length = 32 := by rw [HZ.out]; simp
  have HL := Lib.hid hzl
  clear hsrc hzl
  go_wp2_with (refine wpl_copy rfl (.tmp 31) (.tmp 32) rfl w'.heap.size 0 32 32 ⟨b, off, none⟩ 1 cap rfl rfl Z _ (heap_alloc_new _ _) [bv x] rfl HS.out (by rw [HL.out]; simp) (by simp [Value.oneCell']) ?_; intro w2 g1 g2 g3)
  have B2 : Below w'.heap.size w' w2 := g2 _ _ (ext_alloc _ _) (Nat.le_refl _)
  have G1 : Hid (w2.heap[w'.heap.size]? = some (.cells (List.replicate 1 (bv x) ++ List.replicate (32 - 1) (Value.int .u8 0)).toArray 5 (0, 0))) := by
    rw [g1, HZ.out]; rfl
  clear g1 g2 hmk
  go_loopw [8] (fun i wr => ∃ m : Nat, 1 ≤ m ∧ m ≤ 32 ∧ i = .int .i64 m ∧ wr.heap[w'.heap.size]? = some (.cells (List.replicate m (bv x) ++ List.replicate (32 - m) (Value.int .u8 0)).toArray 5 (0, 0)) ∧ Below w'.heap.size w' wr) (fun i _ => 32 - (intOf i).toNat)
  case atStart => exact ⟨1, by omega, by omega, rfl, G1.out, B2⟩
  case round =>
    obtain ⟨m, hm1, hm2, rfl, r1, r2⟩ := hrel
    have R1 := Lib.hid r1
    clear r1
    by_cases hlt : m < 32
    · obtain ⟨k, hk⟩ : ∃ k, k = Nat.min m (32 - m) := ⟨_, rfl⟩
      have hkm : k = min m (32 - m) := hk
      have hk1 : 1 ≤ k := by omega
      have hk2 : m + k ≤ 32 := by omega
      have hk3 : k ≤ m := by omega
      have HK := Lib.hid (show (List.replicate k (bv x)).length = Nat.min m (32 - m) by rw [List.length_replicate]; exact hk)
      have HF := Lib.hid (show m + (List.replicate k (bv x)).length ≤ (List.replicate m (bv x) ++ List.replicate (32 - m) (Value.int .u8 0)).length by simp; omega)
      have hsrc : ∀ (j : Nat) (v : Value), (List.replicate k (bv x))[j]? = some v → wr.drew.cell? ((⟨w'.heap.size, 0, none⟩ : Addr).add j) = some v := fun j v hj => by
        rw [List.getElem?_replicate] at hj
        split at hj
        · cases hj
          rw [Addr.add_lit]
          show wr.cell? _ = _
          rw [blk_cell R1.out, Nat.zero_add, List.getElem?_toArray, List.getElem?_append_left (by simp; omega), List.getElem?_replicate, if_pos (by omega)]
        · cases hj
      have HS := Lib.hid hsrc
      have HO : Hid (∀ v ∈ List.replicate k (bv x), v.oneCell' = true) := Lib.hid fun v hv => by rw [List.eq_of_mem_replicate hv]; rfl
      have hsz := r2.size
      clear hsrc hk hkm
      go_wp2_with fail
      refine wp_region_early ((0, 0) :: (1, 0) :: (2, 0) :: (3, 0) :: (4, 0) :: (5, 0) :: (6, 0) :: (7, 3) :: (8, 0) :: (9, 0) :: []) (by kernel_rfl) (by kernel_rfl) (fun _ _ d _ _ h => by cases d <;> exact h) ?_
      have hxE := @ExtN.cell (wr.heap.size)
      all_goals (apply wpE_0; exact rfl; exact rfl; exact (wanted_free rfl); intro K hK; go_big_quiet_op; first | (refine hK _ ?_; clear hK K) | (split <;> (refine hK _ ?_; clear hK K)))
      all_goals (apply wpE_0; exact rfl; exact rfl; exact (wanted_free rfl); intro K hK; go_big_quiet_op; first | (refine hK _ ?_; clear hK K) | (split <;> (refine hK _ ?_; clear hK K)))
      all_goals (apply wpE_0; exact rfl; exact rfl; exact (wanted_free rfl); intro K hK; go_big_quiet_op; first | (refine hK _ ?_; clear hK K) | (split <;> (refine hK _ ?_; clear hK K)))
      all_goals (apply wpE_0; exact rfl; exact rfl; exact (wanted_free rfl); intro K hK; go_big_quiet_op; first | (refine hK _ ?_; clear hK K) | (split <;> (refine hK _ ?_; clear hK K)))
      all_goals (apply wpE_0; exact rfl; exact rfl; exact (wanted_free rfl); intro K hK; go_big_quiet_op; first | (refine hK _ ?_; clear hK K) | (split <;> (refine hK _ ?_; clear hK K)))
      all_goals (apply wpE_0; exact rfl; exact rfl; exact (wanted_free rfl); intro K hK; go_big_quiet_op; first | (refine hK _ ?_; clear hK K) | (split <;> (refine hK _ ?_; clear hK K)))
      all_goals (apply wpE_0; exact rfl; exact rfl; exact (wanted_free rfl); intro K hK; go_big_quiet_op; first | (refine hK _ ?_; clear hK K) | (split <;> (refine hK _ ?_; clear hK K)))
      all_goals (apply wpE_3; exact rfl; intro K hK; rw [if_pos (wanted_free rfl)]; refine wp_copy (.tmp 41) (.tmp 44) rfl w'.heap.size m (32 - m) (32 - m) ⟨w'.heap.size, 0, none⟩ m 32 rfl rfl _ _ R1.out (List.replicate k (bv x)) HK.out HS.out HF.out HO.out ?_; intro w3 k1 k2 k3; rw [List.length_replicate, splice_rep (by omega)] at *; refine hK _ _ ?_; clear hK K; (try simp only [Act.put, List.setIfInBounds_toArray, List.set_cons_zero, List.set_cons_succ]))
      all_goals (apply wpE_0; exact rfl; exact rfl; exact (wanted_free rfl); intro K hK; go_big_quiet_op; first | (refine hK _ ?_; clear hK K) | (split <;> (refine hK _ ?_; clear hK K)))
      all_goals (apply wpE_0; exact rfl; exact rfl; exact (wanted_free rfl); intro K hK; go_big_quiet_op; first | (refine hK _ ?_; clear hK K) | (split <;> (refine hK _ ?_; clear hK K)))
      all_goals (refine wpE_nil ?_; clear hxE)
      have B3 : Below w'.heap.size w' w3 := k2 _ _ (by exact (by repeat (first | exact Below.refl _ _ | exact r2 | refine Below.trans ?_ (Below.mono r2 (by first | (simp; done) | (simp; omega) | omega)) | refine Below.setCell ?_ (by first | (simp; done) | (simp; omega) | (have hszq := (r2).size; simp at hszq ⊢; omega)) _ | refine Below.alloc ?_ (by first | (simp; done) | (simp; omega) | (have hszq := (r2).size; simp at hszq ⊢; omega)) _ | refine below_drewN ?_ _ | refine Below.drew ?_))) (Nat.le_refl _)
      go_wp2_with fail
      go_roundw
      case rel => exact ⟨m + k, by omega, by omega, by go_num, k1, B3⟩
      case measure => simp [intOf]; omega
    · have : m = 32 := by omega
      subst this
      go_wp2_with fail
      go_ret
      refine ⟨_, rfl, ⟨by simp, .inr ⟨w'.heap.size, 32, _, by simp, Nat.le_refl _, R1.out, by simp, by decide, by simp, by simp⟩⟩, r2⟩
end Go.Proofs.YtmiokpcolpcbaaaGreatDoor
