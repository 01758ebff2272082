/- Arguments, opened to what lies in memory. -/
import Derived.Test.YtmiokpcolpcbaaaGreatDoorBytesA
import Derived.WalkKit
import Derived.ProofKit
import Derived.OpenShut
import Derived.Deep.Slices
import Derived.ChangeSame
import Derived.Deep.DeepHandedRow
namespace Go.Proofs.YtmiokpcolpcbaaaGreatDoor
open Go.ChangeShapes Go.WideShapes Go.ChangeAt Go.RowKit Go.Deep

section
variable {H : Type} {enc : TypeId × Value → H} {w : World} {base : Nat} {spare : Nat → Bool} {held : Bool}

theorem addr_add0 (a : Addr) : a.add 0 = a := by unfold Addr.add; simp
theorem two_of {cs : List Value} (h : cs.length = 2) : ∃ a b, cs = [a, b] := by
  match cs, h with
  | [a, b], _ => exact ⟨a, b, rfl⟩
theorem three_of {cs : List Value} (h : cs.length = 3) : ∃ a b c, cs = [a, b, c] := by
  match cs, h with
  | [a, b, c], _ => exact ⟨a, b, c, rfl⟩
theorem plain_addr {w : World} {a : Addr} {v : Value} (h : w.cell? a = some v) : a = ⟨a.block, a.off, none⟩ ∧ a.block < w.heap.size := by
  obtain ⟨b, off, spot⟩ := a
  have hb := World.block_lt_of_cell? w _ h
  refine ⟨?_, hb⟩
  cases spot with
  | none => rfl
  | some x =>
    unfold World.cell? at h
    split at h <;> simp at h

theorem i64_wf {n : Int} (h : (Lit.int .i64 n).wf = true) : i64ok n := by
  simp only [Lit.wf, Bool.and_eq_true, decide_eq_true_eq] at h
  exact ⟨h.1, h.2⟩
theorem u8_wf {n : Int} (h : (Lit.int .u8 n).wf = true) : 0 ≤ n ∧ n ≤ 255 := by
  simp only [Lit.wf, Bool.and_eq_true, decide_eq_true_eq] at h
  exact ⟨h.1, h.2⟩
theorem bv_of {n : Int} (h : 0 ≤ n ∧ n ≤ 255) : bv (UInt8.ofNat n.toNat) = .int .u8 n := by
  unfold bv
  congr 1
  rw [UInt8.toNat_ofNat']
  omega

/-- A slice of bytes. -/
theorem bytes_of {fuel : Nat} {v : Value} {x : DataW H × List MemPlace} (h : DataW.trod enc Tryz.prog w base spare held fuel 35 [v] = some x) : ∃ l : List UInt8, Bytes w v l ∧ l.length ≤ maxLen := by
  rcases open_ints Tryz.underlying35 Tryz.underlying5 (by kernel_rfl) h with ⟨hv, _⟩ | ⟨a, len, cap, zs, hv, _, hl, hm, hz, _, hc, hw⟩
  · cases hv
    exact ⟨[], ⟨rfl, none, 0, rfl, Nat.le_refl _, fun i x hx => by simp at hx⟩, Nat.zero_le _⟩
  · cases hv
    have hlz : len ≤ zs.length := by rw [hz]; split <;> omega
    have hlen : ((zs.take len).map fun z => UInt8.ofNat z.toNat).length = len := by simp; omega
    refine ⟨(zs.take len).map fun z => UInt8.ofNat z.toNat, ⟨by simp, some a, cap, by rw [hlen], by rw [hlen]; exact hl, fun i x hx => ?_⟩, by rw [hlen]; omega⟩
    rw [List.map_map, List.getElem?_map, Option.map_eq_some_iff] at hx
    obtain ⟨z, hz1, rfl⟩ := hx
    rw [List.getElem?_take] at hz1
    split at hz1
    · rename_i hil
      have hiz := (List.getElem?_eq_some_iff.1 hz1).1
      have h0 := hc 0 (by omega)
      have hi := hc i hiz
      rw [addr_add0] at h0
      obtain ⟨e, hb⟩ := plain_addr h0
      refine ⟨a.block, a.off, by rw [← e], hb, ?_⟩
      have e2 : a.add i = ⟨a.block, a.off + i, none⟩ := by rw [e]; exact Addr.add_lit _ _ _
      rw [← e2, hi, List.getD_eq_getElem?_getD, hz1]
      simp only [Option.getD_some, Function.comp]
      exact congrArg some (bv_of (u8_wf (hw z (List.mem_of_getElem? hz1)))).symm
    · cases hz1

/-- A slice of numbers. -/
theorem ints_of {fuel : Nat} {v : Value} {x : DataW H × List MemPlace} (h : DataW.trod enc Tryz.prog w base spare held fuel 47 [v] = some x) : ∃ l : List Int, Ints w v l := by
  rcases open_ints Tryz.underlying47 Tryz.underlying3 (by kernel_rfl) h with ⟨hv, _⟩ | ⟨a, len, cap, zs, hv, _, hl, hm, hz, _, hc, hw⟩
  · cases hv
    exact ⟨[], by simp, by simp, ⟨rfl, none, 0, rfl, Nat.le_refl _, fun i x hx => by simp at hx⟩⟩
  · cases hv
    have hlz : len ≤ zs.length := by rw [hz]; split <;> omega
    have hlen : (zs.take len).length = len := by simp; omega
    unfold maxLen at hm
    refine ⟨zs.take len, fun x hx => i64_wf (hw x (List.mem_of_mem_take hx)), by omega, ⟨by simp, some a, cap, by rw [hlen], by rw [hlen]; exact hl, fun i x hx => ?_⟩⟩
    rw [List.getElem?_map, Option.map_eq_some_iff] at hx
    obtain ⟨z, hz1, rfl⟩ := hx
    rw [List.getElem?_take] at hz1
    split at hz1
    · have hiz := (List.getElem?_eq_some_iff.1 hz1).1
      have h0 := hc 0 (by omega)
      have hi := hc i hiz
      rw [addr_add0] at h0
      obtain ⟨e, hb⟩ := plain_addr h0
      refine ⟨a.block, a.off, by rw [← e], hb, ?_⟩
      have e2 : a.add i = ⟨a.block, a.off + i, none⟩ := by rw [e]; exact Addr.add_lit _ _ _
      rw [← e2, hi, List.getD_eq_getElem?_getD, hz1]
      rfl
    · cases hz1

/-- A slice of structs of C cells each: each element's cells and reading. -/
theorem structs_of {t e : TypeId} {C : Nat} {fuel : Nat} {v : Value} {x : DataW H × List MemPlace} (ht : Tryz.prog.underlying t = some (.slice e)) (hC : Tryz.prog.cellsOf e = C) (hpos : 0 < C)
    (h : DataW.trod enc Tryz.prog w base spare held fuel t [v] = some x) :
    ∃ a n cap, v = .slice a n cap ∧ n ≤ maxLen ∧ ∀ i, i < n → ∃ b off cs m y, a = some ⟨b, off, none⟩ ∧ b < w.heap.size ∧ cs.length = C ∧ (∀ j, j < C → w.cell? ⟨b, off + i * C + j, none⟩ = cs[j]?) ∧ DataW.trod enc Tryz.prog w base spare held m e cs = some y := by
  rcases open_slice ht h with ⟨hv, _⟩ | ⟨a, len, cap, m, n, D, Pl, hv, hb, hl, hm, hmm, _, hi⟩
  · cases hv
    exact ⟨none, 0, 0, rfl, Nat.zero_le _, fun i hi => absurd hi (by omega)⟩
  · cases hv
    have hlm : len ≤ m := by rw [hmm]; split <;> omega
    refine ⟨some a, len, cap, rfl, by omega, fun i hil => ?_⟩
    obtain ⟨cs0, h0, _⟩ := hi 0 (by omega)
    obtain ⟨cs, h1, h2⟩ := hi i (by omega)
    rw [hC] at h0 h1
    obtain ⟨_, hl0, hc0⟩ := World.cells?_some h0
    obtain ⟨_, hl1, hc1⟩ := World.cells?_some h1
    have hz := hc0 0 hpos
    rw [Nat.zero_mul, addr_add0, addr_add0, List.getElem?_eq_getElem (by omega)] at hz
    obtain ⟨e1, hbk⟩ := plain_addr hz
    refine ⟨a.block, a.off, cs, n, _, by rw [← e1], hbk, hl1, fun j hj => ?_, h2⟩
    rw [← hc1 j hj, e1, Addr.add_lit, Addr.add_lit]

/-- Pieces. -/
theorem pieces_of {fuel : Nat} {v : Value} {x : DataW H × List MemPlace} (h : DataW.trod enc Tryz.prog w base spare held fuel 23 [v] = some x) : ∃ l : List (Int × Int), Pieces w v l := by
  obtain ⟨a, n, cap, rfl, hn, hi⟩ := structs_of Tryz.underlying23 (C := 2) (by kernel_rfl) (by decide) h
  have hp : ∀ i, ∃ p : Int × Int, i < n → ∃ b off, a = some ⟨b, off, none⟩ ∧ b < w.heap.size ∧ PieceAt w b (off + i * 2) p := by
    intro i
    by_cases hin : i < n
    · obtain ⟨b, off, cs, m, y, e, hb, hl, hc, ht⟩ := hi i hin
      obtain ⟨xs, m', _, _, _, hxl, hf⟩ := DataW.trod_struct Tryz.underlying46 ht
      simp at hxl
      obtain ⟨c0, c1, rfl⟩ := two_of hl
      · 
        have f0 : DataW.trod enc Tryz.prog w base spare held m' 3 (List.take (Tryz.prog.cellsOf 3) (List.drop 0 [c0, c1])) = xs[0]? := hf 0 _ rfl
        have f1 : DataW.trod enc Tryz.prog w base spare held m' 3 (List.take (Tryz.prog.cellsOf 3) (List.drop 1 [c0, c1])) = xs[1]? := hf 1 _ rfl
        have k0 : Tryz.prog.cellsOf 3 = 1 := by kernel_rfl
        simp only [k0, List.drop_zero, List.take_succ_cons, List.take_zero, List.drop_succ_cons] at f0 f1
        obtain ⟨y0, e0⟩ : ∃ y0, xs[0]? = some y0 := ⟨_, List.getElem?_eq_getElem (by omega)⟩
        obtain ⟨y1, e1⟩ : ∃ y1, xs[1]? = some y1 := ⟨_, List.getElem?_eq_getElem (by omega)⟩
        rw [e0] at f0
        rw [e1] at f1
        obtain ⟨n0, g0, _, w0⟩ := DataW.trod_int Tryz.underlying3 f0
        obtain ⟨n1, g1, _, w1⟩ := DataW.trod_int Tryz.underlying3 f1
        cases g0
        cases g1
        exact ⟨(n0, n1), fun _ => ⟨b, off, e, hb, by simpa using hc 0 (by omega), by simpa using hc 1 (by omega), i64_wf w0, i64_wf w1⟩⟩
    · exact ⟨(0, 0), fun h => absurd h hin⟩
  obtain ⟨f, hf⟩ := Classical.axiomOfChoice hp
  unfold maxLen at hn
  refine ⟨(List.range n).map f, by simp; omega, a, cap, by simp, fun i p hp => ?_⟩
  rw [List.getElem?_map, Option.map_eq_some_iff] at hp
  obtain ⟨j, hj, rfl⟩ := hp
  obtain ⟨h1, h2⟩ := List.getElem?_eq_some_iff.1 hj
  simp at h1 h2
  subst h2
  exact hf i h1

/-- Steps. -/
theorem steps_of {fuel : Nat} {v : Value} {x : DataW H × List MemPlace} (h : DataW.trod enc Tryz.prog w base spare held fuel 24 [v] = some x) : ∃ l : List AStep, Steps w v l := by
  obtain ⟨a, n, cap, rfl, hn, hi⟩ := structs_of Tryz.underlying24 (C := 3) (by kernel_rfl) (by decide) h
  have hp : ∀ i, ∃ p : AStep, i < n → ∃ b off, a = some ⟨b, off, none⟩ ∧ b < w.heap.size ∧ StepAt w b (off + i * 3) p := by
    intro i
    by_cases hin : i < n
    · obtain ⟨b, off, cs, m, y, e, hb, hl, hc, ht⟩ := hi i hin
      obtain ⟨xs, m', _, _, _, hxl, hf⟩ := DataW.trod_struct Tryz.underlying49 ht
      simp at hxl
      obtain ⟨c0, c1, c2, rfl⟩ := three_of hl
      · 
        have f0 : DataW.trod enc Tryz.prog w base spare held m' 3 (List.take (Tryz.prog.cellsOf 3) (List.drop 0 [c0, c1, c2])) = xs[0]? := hf 0 _ rfl
        have f1 : DataW.trod enc Tryz.prog w base spare held m' 47 (List.take (Tryz.prog.cellsOf 47) (List.drop 1 [c0, c1, c2])) = xs[1]? := hf 1 _ rfl
        have f2 : DataW.trod enc Tryz.prog w base spare held m' 3 (List.take (Tryz.prog.cellsOf 3) (List.drop 2 [c0, c1, c2])) = xs[2]? := hf 2 _ rfl
        have k0 : Tryz.prog.cellsOf 3 = 1 := by kernel_rfl
        have k1 : Tryz.prog.cellsOf 47 = 1 := by kernel_rfl
        simp only [k0, k1, List.drop_zero, List.take_succ_cons, List.take_zero, List.drop_succ_cons] at f0 f1 f2
        obtain ⟨y0, e0⟩ : ∃ y0, xs[0]? = some y0 := ⟨_, List.getElem?_eq_getElem (by omega)⟩
        obtain ⟨y1, e1⟩ : ∃ y1, xs[1]? = some y1 := ⟨_, List.getElem?_eq_getElem (by omega)⟩
        obtain ⟨y2, e2⟩ : ∃ y2, xs[2]? = some y2 := ⟨_, List.getElem?_eq_getElem (by omega)⟩
        rw [e0] at f0
        rw [e1] at f1
        rw [e2] at f2
        obtain ⟨n0, g0, _, w0⟩ := DataW.trod_int Tryz.underlying3 f0
        obtain ⟨n2, g2, _, w2⟩ := DataW.trod_int Tryz.underlying3 f2
        obtain ⟨l1, h1⟩ := ints_of f1
        cases g0
        cases g2
        exact ⟨⟨n0, l1, n2⟩, fun _ => ⟨b, off, e, hb, by simpa using hc 0 (by omega), ⟨c1, by simpa using hc 1 (by omega), h1⟩, by simpa using hc 2 (by omega), i64_wf w0, i64_wf w2⟩⟩
    · exact ⟨⟨0, [], 0⟩, fun h => absurd h hin⟩
  obtain ⟨f, hf⟩ := Classical.axiomOfChoice hp
  unfold maxLen at hn
  refine ⟨(List.range n).map f, by simp; omega, a, cap, by simp, fun i p hp => ?_⟩
  rw [List.getElem?_map, Option.map_eq_some_iff] at hp
  obtain ⟨j, hj, rfl⟩ := hp
  obtain ⟨h1, h2⟩ := List.getElem?_eq_some_iff.1 hj
  simp at h1 h2
  subst h2
  exact hf i h1

/-- A key's cells. -/
theorem key_of {fuel : Nat} {cs : List Value} {x : DataW H × List MemPlace} (h : DataW.trod enc Tryz.prog w base spare held fuel 37 cs = some x) : ∃ k : List UInt8, k.length = 32 ∧ cs = k.map bv := by
  obtain ⟨xs, m, _, _, hl, hx, hf⟩ := DataW.trod_array Tryz.underlying37 h
  have hl' : cs.length = 32 := by rw [hl]; kernel_rfl
  have k0 : Tryz.prog.cellsOf 5 = 1 := by kernel_rfl
  have hp : ∀ i, ∃ c : UInt8, i < 32 → cs[i]? = some (bv c) := by
    intro i
    by_cases hin : i < 32
    · have f0 := hf i hin
      rw [k0, Nat.mul_one] at f0
      obtain ⟨y0, e0⟩ : ∃ y0, xs[i]? = some y0 := ⟨_, List.getElem?_eq_getElem (by omega)⟩
      rw [e0] at f0
      obtain ⟨n0, g0, _, w0⟩ := DataW.trod_int Tryz.underlying5 f0
      rw [List.drop_eq_getElem_cons (show i < cs.length by omega), List.take_succ_cons, List.take_zero, List.cons.injEq] at g0
      exact ⟨UInt8.ofNat n0.toNat, fun _ => by rw [bv_of (u8_wf w0), List.getElem?_eq_getElem (by omega), g0.1]⟩
    · exact ⟨0, fun h => absurd h hin⟩
  obtain ⟨f, hf'⟩ := Classical.axiomOfChoice hp
  refine ⟨(List.range 32).map f, by simp, List.ext_getElem? fun i => ?_⟩
  by_cases hin : i < 32
  · rw [hf' i hin]; simp [hin]
  · rw [List.getElem?_eq_none (by omega), List.getElem?_eq_none (by simp; omega)]

/-- An object's cells. -/
theorem obj_of {fuel : Nat} {cs : List Value} {x : DataW H × List MemPlace} {b off : Nat} (h : DataW.trod enc Tryz.prog w base spare held fuel 39 cs = some x)
    (hc : ∀ j, j < 35 → w.cell? ⟨b, off + j, none⟩ = cs[j]?) : ∃ o : AObj, ObjAt w b off o ∧ o.secret.length ≤ maxLen := by
  obtain ⟨xs, m', _, _, hl, hxl, hf⟩ := DataW.trod_struct Tryz.underlying39 h
  have hl' : cs.length = 35 := by rw [hl]; kernel_rfl
  simp at hxl
  have f0 : DataW.trod enc Tryz.prog w base spare held m' 35 (List.take (Tryz.prog.cellsOf 35) (List.drop 0 cs)) = xs[0]? := hf 0 _ rfl
  have f1 : DataW.trod enc Tryz.prog w base spare held m' 37 (List.take (Tryz.prog.cellsOf 37) (List.drop 1 cs)) = xs[1]? := hf 1 _ rfl
  have f2 : DataW.trod enc Tryz.prog w base spare held m' 3 (List.take (Tryz.prog.cellsOf 3) (List.drop 33 cs)) = xs[2]? := hf 2 _ rfl
  have f3 : DataW.trod enc Tryz.prog w base spare held m' 3 (List.take (Tryz.prog.cellsOf 3) (List.drop 34 cs)) = xs[3]? := hf 3 _ rfl
  have k0 : Tryz.prog.cellsOf 3 = 1 := by kernel_rfl
  have k1 : Tryz.prog.cellsOf 35 = 1 := by kernel_rfl
  have k2 : Tryz.prog.cellsOf 37 = 32 := by kernel_rfl
  rw [k1] at f0
  rw [k2] at f1
  rw [k0] at f2 f3
  obtain ⟨y0, e0⟩ : ∃ y0, xs[0]? = some y0 := ⟨_, List.getElem?_eq_getElem (by omega)⟩
  obtain ⟨y1, e1⟩ : ∃ y1, xs[1]? = some y1 := ⟨_, List.getElem?_eq_getElem (by omega)⟩
  obtain ⟨y2, e2⟩ : ∃ y2, xs[2]? = some y2 := ⟨_, List.getElem?_eq_getElem (by omega)⟩
  obtain ⟨y3, e3⟩ : ∃ y3, xs[3]? = some y3 := ⟨_, List.getElem?_eq_getElem (by omega)⟩
  rw [e0] at f0
  rw [e1] at f1
  rw [e2] at f2
  rw [e3] at f3
  have one : ∀ j (hj : j < cs.length), (cs.drop j).take 1 = [cs[j]] := fun j hj => by rw [List.drop_eq_getElem_cons hj]; rfl
  rw [one 0 (by omega)] at f0
  rw [one 33 (by omega)] at f2
  rw [one 34 (by omega)] at f3
  obtain ⟨l, hb, hbl⟩ := bytes_of f0
  obtain ⟨k, hk, hke⟩ := key_of f1
  obtain ⟨n2, g2, _, w2⟩ := DataW.trod_int Tryz.underlying3 f2
  obtain ⟨n3, g3, _, w3⟩ := DataW.trod_int Tryz.underlying3 f3
  simp at g2 g3
  refine ⟨⟨l, k, n2, n3⟩, ⟨⟨cs[0], ?_, hb⟩, hk, fun j x hj => ?_, ?_, ?_, i64_wf w2, i64_wf w3⟩, hbl⟩
  · have := hc 0 (by omega)
    rw [List.getElem?_eq_getElem (by omega)] at this
    simpa using this
  · have hj' := (List.getElem?_eq_some_iff.1 hj).1
    simp only at hj'
    have h1 : ((cs.drop 1).take 32)[j]? = some (bv x) := by rw [hke, List.getElem?_map, hj]; rfl
    rw [List.getElem?_take_of_lt (by omega), List.getElem?_drop] at h1
    rw [Nat.add_assoc, hc (1 + j) (by omega), h1]
  · rw [hc 33 (by omega), List.getElem?_eq_getElem (by omega), g2]
  · rw [hc 34 (by omega), List.getElem?_eq_getElem (by omega), g3]

/-- Objects. -/
theorem objs_of {fuel : Nat} {v : Value} {x : DataW H × List MemPlace} (h : DataW.trod enc Tryz.prog w base spare held fuel 22 [v] = some x) : ∃ l : List AObj, Objs w v l := by
  obtain ⟨a, n, cap, rfl, hn, hi⟩ := structs_of Tryz.underlying22 (C := 35) (by kernel_rfl) (by decide) h
  have hp : ∀ i, ∃ p : AObj, i < n → ∃ b off, a = some ⟨b, off, none⟩ ∧ b < w.heap.size ∧ ObjAt w b (off + i * 35) p := by
    intro i
    by_cases hin : i < n
    · obtain ⟨b, off, cs, m, y, e, hb, hl, hc, ht⟩ := hi i hin
      obtain ⟨o, ho, _⟩ := obj_of ht hc
      exact ⟨o, fun _ => ⟨b, off, e, hb, ho⟩⟩
    · exact ⟨⟨[], [], 0, 0⟩, fun h => absurd h hin⟩
  obtain ⟨f, hf⟩ := Classical.axiomOfChoice hp
  unfold maxLen at hn
  refine ⟨(List.range n).map f, by simp; omega, a, cap, by simp, fun i p hp => ?_⟩
  rw [List.getElem?_map, Option.map_eq_some_iff] at hp
  obtain ⟨j, hj, rfl⟩ := hp
  obtain ⟨h1, h2⟩ := List.getElem?_eq_some_iff.1 hj
  simp at h1 h2
  subst h2
  exact hf i h1
end
end Go.Proofs.YtmiokpcolpcbaaaGreatDoor
