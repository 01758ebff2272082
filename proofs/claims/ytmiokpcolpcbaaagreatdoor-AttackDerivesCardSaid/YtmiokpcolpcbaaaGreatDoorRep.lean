/- Pieces, steps, numbers in memory; what objects are right. -/
import Derived.Test.YtmiokpcolpcbaaaGreatDoorBase
import Derived.Deep.MidRow
import Derived.Deep.WholeRow
namespace Go.Proofs.YtmiokpcolpcbaaaGreatDoor
open Go.RowKit

def PieceAt (w : World) (b off : Nat) (p : Int × Int) : Prop :=
  w.cell? ⟨b, off, none⟩ = some (.int .i64 p.1) ∧ w.cell? ⟨b, off + 1, none⟩ = some (.int .i64 p.2) ∧ i64ok p.1 ∧ i64ok p.2
def Pieces (w : World) (v : Value) (l : List (Int × Int)) : Prop :=
  l.length ≤ 9223372036854775807 ∧ ∃ a cap, v = .slice a l.length cap ∧ ∀ i p, l[i]? = some p → ∃ b off, a = some ⟨b, off, none⟩ ∧ b < w.heap.size ∧ PieceAt w b (off + i * 2) p

/-- A slice of numbers. -/
def Ints (w : World) (v : Value) (l : List Int) : Prop := (∀ x ∈ l, i64ok x) ∧ l.length ≤ 9223372036854775807 ∧ Row 1 w v l.length (l.map (Value.int .i64))

structure AStep where
  rule : Int
  args : List Int
  n : Int
structure StepAt (w : World) (b off : Nat) (s : AStep) : Prop where
  rule : w.cell? ⟨b, off, none⟩ = some (.int .i64 s.rule)
  args : ∃ sv, w.cell? ⟨b, off + 1, none⟩ = some sv ∧ Ints w sv s.args
  n : w.cell? ⟨b, off + 2, none⟩ = some (.int .i64 s.n)
  rok : i64ok s.rule
  nok : i64ok s.n
def Steps (w : World) (v : Value) (l : List AStep) : Prop :=
  l.length ≤ 9223372036854775807 ∧ ∃ a cap, v = .slice a l.length cap ∧ ∀ i s, l[i]? = some s → ∃ b off, a = some ⟨b, off, none⟩ ∧ b < w.heap.size ∧ StepAt w b (off + i * 3) s

theorem Ints.mono {w w' : World} {v : Value} {l : List Int} (h : Ints w v l) (hb : Below w.heap.size w w') : Ints w' v l := ⟨h.1, h.2.1, h.2.2.mono hb⟩
theorem Ints.split {w : World} {v : Value} {l : List Int} (h : Ints w v l) : ∃ a cap, v = .slice a l.length cap ∧ l.length ≤ cap := by
  obtain ⟨_, _, _, a, cap, h1, h2, _⟩ := h; exact ⟨a, cap, h1, h2⟩
theorem Ints.get {w : World} {a : Option Addr} {n cap : Nat} {l : List Int} (h : Ints w (.slice a n cap) l) {i : Nat} {t : Int} (hi : l[i]? = some t) :
    ∃ b off, a = some ⟨b, off, none⟩ ∧ b < w.heap.size ∧ w.cell? ⟨b, off + i, none⟩ = some (.int .i64 t) ∧ i64ok t := by
  obtain ⟨ho, _, h0, a', cap', h1, hcap, h2⟩ := h
  cases h1
  obtain ⟨b, off, h3, h4, h5⟩ := h2 i (.int .i64 t) (by simp [hi])
  exact ⟨b, off, h3, h4, h5, ho t (List.mem_of_getElem? hi)⟩

theorem Bytes.mono {w w' : World} {v : Value} {l : List UInt8} (h : Bytes w v l) (hb : Below w.heap.size w w') : Bytes w' v l := Row.mono h hb
theorem ObjAt.mono {w w' : World} {b off : Nat} {o : AObj} (h : ObjAt w b off o) (hB : b < w.heap.size) (hb : Below w.heap.size w w') : ObjAt w' b off o := by
  obtain ⟨⟨sv, h1, h2⟩, h3, h4, h5, h6, h7, h8⟩ := h
  have hc : ∀ i x, w.cell? ⟨b, i, none⟩ = some x → w'.cell? ⟨b, i, none⟩ = some x := fun i x h => (hb.cell (p := ⟨b, i, none⟩) hB).trans h
  exact ⟨⟨sv, hc _ _ h1, h2.mono hb⟩, h3, fun j x hj => hc _ _ (h4 j x hj), hc _ _ h5, hc _ _ h6, h7, h8⟩
theorem Objs.mono {w w' : World} {v : Value} {l : List AObj} (h : Objs w v l) (hb : Below w.heap.size w w') : Objs w' v l := by
  obtain ⟨h0, a, cap, h1, h2⟩ := h
  refine ⟨h0, a, cap, h1, fun i o hi => ?_⟩
  obtain ⟨b, off, h3, h4, h5⟩ := h2 i o hi
  exact ⟨b, off, h3, Nat.lt_of_lt_of_le h4 hb.size, h5.mono h4 hb⟩
theorem PieceAt.mono {w w' : World} {b off : Nat} {p : Int × Int} (h : PieceAt w b off p) (hB : b < w.heap.size) (hb : Below w.heap.size w w') : PieceAt w' b off p :=
  ⟨(hb.cell (p := ⟨b, off, none⟩) hB).trans h.1, (hb.cell (p := ⟨b, off + 1, none⟩) hB).trans h.2.1, h.2.2⟩
theorem Pieces.mono {w w' : World} {v : Value} {l : List (Int × Int)} (h : Pieces w v l) (hb : Below w.heap.size w w') : Pieces w' v l := by
  obtain ⟨h0, a, cap, h1, h2⟩ := h
  refine ⟨h0, a, cap, h1, fun i o hi => ?_⟩
  obtain ⟨b, off, h3, h4, h5⟩ := h2 i o hi
  exact ⟨b, off, h3, Nat.lt_of_lt_of_le h4 hb.size, h5.mono h4 hb⟩
theorem StepAt.mono {w w' : World} {b off : Nat} {s : AStep} (h : StepAt w b off s) (hB : b < w.heap.size) (hb : Below w.heap.size w w') : StepAt w' b off s := by
  obtain ⟨h1, ⟨sv, h2, h3⟩, h4, h5, h6⟩ := h
  have hc : ∀ i x, w.cell? ⟨b, i, none⟩ = some x → w'.cell? ⟨b, i, none⟩ = some x := fun i x h => (hb.cell (p := ⟨b, i, none⟩) hB).trans h
  exact ⟨hc _ _ h1, ⟨sv, hc _ _ h2, h3.mono hb⟩, hc _ _ h4, h5, h6⟩
theorem Steps.mono {w w' : World} {v : Value} {l : List AStep} (h : Steps w v l) (hb : Below w.heap.size w w') : Steps w' v l := by
  obtain ⟨h0, a, cap, h1, h2⟩ := h
  refine ⟨h0, a, cap, h1, fun i o hi => ?_⟩
  obtain ⟨b, off, h3, h4, h5⟩ := h2 i o hi
  exact ⟨b, off, h3, Nat.lt_of_lt_of_le h4 hb.size, h5.mono h4 hb⟩

def rightO (o : AObj) : Bool := decide (1 ≤ o.k) && decide (o.k ≤ o.n) && decide (o.n ≤ 255) && decide ((o.secret.length : Int) ≤ 1000)
def rightL (l : List AObj) : Bool := l.all rightO && decide (l.length ≤ 20)

theorem rightO_no {o : AObj} {l : List AObj} {k : Nat} (hk : l[k]? = some o) (h : rightO o = false) : rightL l = false := by
  unfold rightL
  have : l.all rightO = false := by
    rw [List.all_eq_false]
    exact ⟨o, List.mem_of_getElem? hk, by simp [h]⟩
  simp [this]
theorem rightO_yes {o : AObj} {l : List AObj} {k : Nat} (hk : l[k]? = some o) (h : rightO o = true) (hn : (l.take k).all rightO = true) : (l.take (k + 1)).all rightO = true := by
  rw [List.take_add_one, hk]
  simp only [Option.toList_some, List.all_append, hn, List.all_cons, h, List.all_nil, Bool.and_self]

/-- An object, by value. -/
def objRow (sv : Value) (o : AObj) : List Value := sv :: (o.key.map (fun x => Value.int .u8 x.toNat) ++ [.int .i64 o.k, .int .i64 o.n])
theorem objRow_range {w : World} {b off : Nat} {o : AObj} {sv : Value} (h : ObjAt w b off o) (hs : w.cell? ⟨b, off, none⟩ = some sv) : w.rangeAt b off (objRow sv o) := by
  intro j v hv
  have hl := h.klen
  cases j with
  | zero => simp [objRow] at hv; subst hv; exact hs
  | succ j =>
    simp only [objRow, List.getElem?_cons_succ] at hv
    by_cases hj : j < 32
    · rw [List.getElem?_append_left (by simp; omega), List.getElem?_map, Option.map_eq_some_iff] at hv
      obtain ⟨x, hx, rfl⟩ := hv
      have := h.key j x hx
      rwa [show off + (j + 1) = off + 1 + j by omega]
    · rw [List.getElem?_append_right (by simp; omega)] at hv
      simp only [List.length_map, hl] at hv
      rcases j with _ | j
      · omega
      · by_cases h1 : j + 1 = 32
        · rw [h1] at hv ⊢; simp at hv; subst hv; exact h.k
        · by_cases h2 : j + 1 = 33
          · rw [h2] at hv ⊢; simp at hv; subst hv; exact h.n
          · have : j + 1 - 32 = (j + 1 - 34) + 2 := by omega
            rw [this] at hv; simp at hv
theorem objRow_length {sv : Value} {o : AObj} (h : o.key.length = 32) : (objRow sv o).length = 35 := by simp [objRow, h]
theorem objRow_k {sv : Value} {o : AObj} (h : o.key.length = 32) : (objRow sv o)[33]? = some (.int .i64 o.k) := by simp [objRow, h, List.getElem?_append_right]
theorem objRow_n {sv : Value} {o : AObj} (h : o.key.length = 32) : (objRow sv o)[34]? = some (.int .i64 o.n) := by simp [objRow, h, List.getElem?_append_right]
theorem objRow_0 {sv : Value} {o : AObj} : (objRow sv o)[0]? = some sv := rfl
theorem objRow_one {sv : Value} {o : AObj} (hs : sv.oneCell' = true) : (objRow sv o).toArray.all (·.oneCell') = true := all_oneCell_toArray (by
  intro v hv
  simp only [objRow, List.mem_cons, List.mem_append, List.mem_map, List.not_mem_nil, or_false] at hv
  rcases hv with rfl | ⟨x, _, rfl⟩ | rfl | rfl
  · exact hs
  · rfl
  · rfl
  · rfl)
theorem info_obj : (Tryz.prog.info? 39).map (·.size) = some 35 := by kernel_rfl
theorem und_obj : (match Tryz.prog.underlying 39 with | some d => d.isRow | none => false) = true := by kernel_rfl
theorem wpl_load_obj {ops : Array Oper} {rest : List Oper} {op : Oper} {a : Act} {w : World} {Q : Exit → Act → World → Prop} (hgd : op.guard = none) (x : Operand) (ho : op.op = .load 39 x)
    (b off : Nat) (hx : a.eval x = .pointer (some ⟨b, off, none⟩)) (o : AObj) (sv : Value) (h : ObjAt w b off o) (hs : w.cell? ⟨b, off, none⟩ = some sv)
    (hk : wpList Tryz.prog ops Q rest (a.put op.dst (.agg (objRow sv o).toArray)) w) : wpList Tryz.prog ops Q (op :: rest) a w := by
  have hu := und_obj
  cases hd : Tryz.prog.underlying 39 with
  | none => rw [hd] at hu; cases hu
  | some d =>
    rw [hd] at hu
    exact wpList_load_mid hgd _ x ho b off hx _ d (objRow_range h hs) hd hu (by rw [objRow_length h.klen]; exact info_obj) hk
theorem wpl_store_obj {ops : Array Oper} {rest : List Oper} {op : Oper} {a : Act} {w : World} {Q : Exit → Act → World → Prop} (hgd : op.guard = none) (x y : Operand) (ho : op.op = .store 39 x y)
    (c : Array Value) (o : AObj) (sv : Value) (hx : a.eval x = .pointer (some ⟨w.heap.size, 0, none⟩)) (hy : a.eval y = .agg (objRow sv o).toArray) (hc : c.size = 35) (hl : o.key.length = 32) (hs : sv.oneCell' = true)
    (hk : wpList Tryz.prog ops Q rest (a.put op.dst undef) (w.alloc (.cells (objRow sv o).toArray 39))) : wpList Tryz.prog ops Q (op :: rest) a (w.alloc (.cells c 39)) :=
  wpList_plain hgd fun _ hK => by
    have := run_storeAt_new (P := Tryz.prog) w 39 c (objRow sv o).toArray (by simpa [objRow_length hl] using info_obj) (by simp [objRow_length hl, hc]) (objRow_one hs)
    unfold Oper.wp execOp
    simp only [ho, hx, hy, Sem.run_bind, this, Result.andThen_ok, Sem.run_pure]
    exact hK _ _ hk
end Go.Proofs.YtmiokpcolpcbaaaGreatDoor
