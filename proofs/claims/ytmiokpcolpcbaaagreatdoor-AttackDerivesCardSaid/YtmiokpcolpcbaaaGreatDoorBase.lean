/-
  Representation predicates and small laws on worlds, for all further texts.
-/
import Derived.Test.YtmiokpcolpcbaaaGreatDoorProg
import Derived.Test.YtmiokpcolpcbaaaGreatDoorDraw
import Derived.WalkKit
import Derived.WalkSpells
import Derived.WalkLawsBesides
import Derived.Lib.Hide
import Derived.Lib.Strings
import Derived.Lib.OthersKept
import Derived.WalkSmall
import Derived.BigQuiet
import Derived.Deep.RegionHeld3
namespace Go.Proofs.YtmiokpcolpcbaaaGreatDoor
open Go.RowKit

theorem ext_alloc (w : World) (o : Obj) : Ext w (w.alloc o) := (Below.refl _ _).alloc (Nat.le_refl _) o
theorem ext_alloc_drew (w : World) (o : Obj) : Ext w.drew (w.alloc o).drew := (Below.refl _ w.drew).alloc (Nat.le_refl _) o

/-- The bytes of a string. -/
def tx (s : ByteArray) : List UInt8 := s.data.toList

theorem tx_mk (l : List UInt8) : tx ⟨l.toArray⟩ = l := rfl
theorem tx_inj {a b : ByteArray} (h : tx a = tx b) : a = b := by
  cases a; cases b; simp [tx] at h; exact congrArg _ h
theorem tx_length (s : ByteArray) : (tx s).length = s.size := rfl

theorem toList_eq_tx (s : ByteArray) : s.toList = tx s := ByteArray.toList_eq s
theorem beq_tx (a b : ByteArray) : (a.toList == b.toList) = decide (tx a = tx b) := by
  rw [toList_eq_tx, toList_eq_tx, Bool.eq_iff_iff]; simp

theorem bcat (a b : List UInt8) : (ByteArray.mk a.toArray) ++ (ByteArray.mk b.toArray) = ⟨(a ++ b).toArray⟩ := by
  apply Go.WideShapes.bytes_inj
  simp [ByteArray.data_append]
theorem ext_mk (s : List UInt8) (i j : Nat) : (ByteArray.mk s.toArray).extract i j = ⟨((s.take j).drop i).toArray⟩ := by
  apply Go.WideShapes.bytes_inj
  rw [Go.Lib.extract_data]
  exact (List.drop_take).symm

theorem byte_at {s : List UInt8} {k : Nat} {c : UInt8} (hk : s[k]? = some c) (h : k < (ByteArray.mk s.toArray).size) : (ByteArray.mk s.toArray)[k]'h = c := by
  obtain ⟨h1, h2⟩ := List.getElem?_eq_some_iff.1 hk
  rw [← h2]; rfl
theorem u8_int {c d : UInt8} : (c.toNat : Int) = (d.toNat : Int) ↔ c = d := by rw [Int.natCast_inj, UInt8.toNat_inj]
theorem u8_bne {c d : UInt8} (h : c ≠ d) : ((c.toNat : Int) != (d.toNat : Int)) = true := by rw [bne_iff_ne]; exact fun e => h (u8_int.1 e)
theorem u8_beq {c d : UInt8} (h : c ≠ d) : ((c.toNat : Int) == (d.toNat : Int)) = false := by rw [beq_eq_false_iff_ne]; exact fun e => h (u8_int.1 e)

/-- A slice of n elements of sz cells each: its cells. -/
def Row (sz : Nat) (w : World) (v : Value) (n : Nat) (cells : List Value) : Prop :=
  cells.length = n * sz ∧ ∃ a cap, v = .slice a n cap ∧ n ≤ cap ∧ ∀ i x, cells[i]? = some x → ∃ b off, a = some ⟨b, off, none⟩ ∧ b < w.heap.size ∧ w.cell? ⟨b, off + i, none⟩ = some x

theorem Row.mono {sz : Nat} {w w' : World} {v : Value} {n : Nat} {cs : List Value} (h : Row sz w v n cs) (hb : Below w.heap.size w w') : Row sz w' v n cs := by
  obtain ⟨h0, a, cap, h1, hcap, h2⟩ := h
  refine ⟨h0, a, cap, h1, hcap, fun i x hx => ?_⟩
  obtain ⟨b, off, h3, h4, h5⟩ := h2 i x hx
  exact ⟨b, off, h3, Nat.lt_of_lt_of_le h4 hb.size, (hb.cell (p := ⟨b, off + i, none⟩) h4).trans h5⟩

/-- A slice of bytes. -/
def Bytes (w : World) (v : Value) (l : List UInt8) : Prop := Row 1 w v l.length (l.map fun x => .int .u8 x.toNat)

/-- A string of these bytes. -/
abbrev st (l : List UInt8) : Value := .string ⟨l.toArray⟩

/-- A slice of strings. -/
def Strs (w : World) (v : Value) (l : List (List UInt8)) : Prop := Row 1 w v l.length (l.map st)

theorem Row.len {sz : Nat} {w : World} {v : Value} {n : Nat} {cs : List Value} (h : Row sz w v n cs) : ∃ a cap, v = .slice a n cap := ⟨h.2.choose, h.2.choose_spec.choose, h.2.choose_spec.choose_spec.1⟩

theorem Row.nil (sz : Nat) (w : World) : Row sz w (.slice none 0 0) 0 [] := ⟨by simp, none, 0, rfl, Nat.le_refl _, fun i x h => by simp at h⟩

/-- What a slice that the call owns reads as. -/
theorem Row.of_owns {w : World} {base : Nat} {e : TypeId} {sz : Nat} {v : Value} {n : Nat} {xs : List Value} (h : w.ownsRow base e sz v n xs) : Row sz w v n xs := by
  obtain ⟨h0, h1⟩ := h
  refine ⟨h0, ?_⟩
  rcases h1 with ⟨rfl, rfl⟩ | ⟨g, cap, cur, rfl, hg, hh, hn, hm, hs, ht⟩
  · exact ⟨none, 0, rfl, by omega, fun i x hx => by simp at h0; simp [h0] at hx⟩
  · refine ⟨_, cap, rfl, hn, fun i x hx => ⟨g, 0, rfl, (Array.getElem?_eq_some_iff.1 hh).1, ?_⟩⟩
    rw [← ht, List.getElem?_take] at hx
    split at hx
    · rw [cell_of_row w g (0 + i) cur e (0, 0) hh]
      simpa using hx
    · cases hx

theorem Strs.of_owns {w : World} {base : Nat} {e : TypeId} {v : Value} {n : Nat} {l : List (List UInt8)} (h : w.ownsRow base e 1 v n (l.map st)) : Strs w v l := by
  have h0 := h.1
  simp at h0
  subst h0
  exact Row.of_owns h

theorem Strs.mono {w w' : World} {v : Value} {l : List (List UInt8)} (h : Strs w v l) (hb : Below w.heap.size w w') : Strs w' v l := Row.mono h hb

/-- An element, where there is one. -/
theorem Strs.get {w : World} {a : Option Addr} {n cap : Nat} {l : List (List UInt8)} (h : Strs w (.slice a n cap) l) {i : Nat} {t : List UInt8} (hi : l[i]? = some t) :
    ∃ b off, a = some ⟨b, off, none⟩ ∧ b < w.heap.size ∧ w.cell? ⟨b, off + i, none⟩ = some (st t) := by
  obtain ⟨h0, a', cap', h1, hcap, h2⟩ := h
  cases h1
  exact h2 i (st t) (by simp [hi])
theorem Strs.length {w : World} {a : Option Addr} {n cap : Nat} {l : List (List UInt8)} (h : Strs w (.slice a n cap) l) : n = l.length := by
  obtain ⟨h0, a', cap', h1, hcap, h2⟩ := h
  cases h1; rfl
theorem Strs.split {w : World} {v : Value} {l : List (List UInt8)} (h : Strs w v l) : ∃ a cap, v = .slice a l.length cap ∧ l.length ≤ cap := by
  obtain ⟨_, a, cap, h1, h2, _⟩ := h
  exact ⟨a, cap, h1, h2⟩

theorem blk_cell {w : World} {g : Nat} {cs : Array Value} {T : TypeId} {fr : Nat × Nat} (h : w.heap[g]? = some (.cells cs T fr)) (i : Nat) : w.cell? ⟨g, i, none⟩ = cs[i]? := cell_of_row w g i cs T fr h
theorem blk_frozen {w : World} {g : Nat} {cs : Array Value} {T : TypeId} (h : w.heap[g]? = some (.cells cs T (0, 0))) (i : Nat) : w.frozen? ⟨g, i, none⟩ = false := by simp [World.frozen?, h]
theorem blk_set {w : World} {g : Nat} {cs : Array Value} {T : TypeId} {fr : Nat × Nat} (h : w.heap[g]? = some (.cells cs T fr)) (i : Nat) (v : Value) : (w.setCell ⟨g, i, none⟩ v).heap[g]? = some (.cells (cs.setIfInBounds i v) T fr) := by
  simp [World.setCell, Array.getElem?_modify, h]
theorem blk_other {w : World} {g : Nat} (p : Addr) (v : Value) (h : g ≠ p.block) : (w.setCell p v).heap[g]? = w.heap[g]? := Below.heap_setCell w p v g h
theorem grown_set (w : World) (p : Addr) (v : Value) : w.grownBy (w.setCell p v) (some p.block) := ⟨rfl, rfl, rfl, by simp [World.setCell], fun k _ hne => Below.heap_setCell w p v k (fun e => hne (by rw [e]))⟩
theorem blk_new (w : World) (o : Obj) : (w.alloc o).heap[w.heap.size]? = some o := heap_alloc_new w o
theorem blk_lt {w : World} {g : Nat} {o : Obj} (h : w.heap[g]? = some o) : g < w.heap.size := (Array.getElem?_eq_some_iff.1 h).1

/-- A slice of strings that the call owns. -/
def OwnsS (w : World) (base : Nat) (v : Value) (l : List (List UInt8)) : Prop := w.ownsRow base 9 1 v l.length (l.map st)
theorem OwnsS.strs {w : World} {base : Nat} {v : Value} {l : List (List UInt8)} (h : OwnsS w base v l) : Strs w v l := Row.of_owns h
theorem OwnsS.nil (w : World) (base : Nat) : OwnsS w base (.slice none 0 0) [] := World.ownsRow_nil w base _ 1
theorem OwnsS.single (w : World) (base : Nat) (t : List UInt8) (hb : base ≤ w.heap.size) : OwnsS (w.alloc (.cells #[st t] 9)) base (.slice (some ⟨w.heap.size, 0, none⟩) 1 1) [t] :=
  ⟨rfl, .inr ⟨w.heap.size, 1, _, rfl, hb, heap_alloc_new w _, Nat.le_refl _, by decide, rfl, rfl⟩⟩
theorem OwnsS.le {w : World} {base base' : Nat} {v : Value} {l : List (List UInt8)} (h : OwnsS w base v l) (hb : base' ≤ base) : OwnsS w base' v l := by
  obtain ⟨h0, h1⟩ := h
  refine ⟨h0, ?_⟩
  rcases h1 with h | ⟨g, cap, cur, hv, hg, r⟩
  · exact .inl h
  · exact .inr ⟨g, cap, cur, hv, Nat.le_trans hb hg, r⟩
theorem OwnsS.mono {w w' : World} {base : Nat} {v : Value} {l : List (List UInt8)} (h : OwnsS w base v l) (hb : Below w.heap.size w w') : OwnsS w' base v l := by
  refine World.ownsRow.kept (w := w) (row := none) h ⟨hb.os, hb.tape, hb.output, hb.size, fun k hk _ => hb.block k hk⟩ ?_
  cases hv : v.ownBlock <;> simp

theorem OwnsS.kept {w w' : World} {base : Nat} {v : Value} {l : List (List UInt8)} {row : Option Nat} (h : OwnsS w base v l) (hg : w.grownBy w' row) (hne : ∀ k, row = some k → k < base) : OwnsS w' base v l := by
  refine World.ownsRow.kept (w := w) h hg ?_
  cases hv : v.ownBlock with
  | none => exact .inl rfl
  | some g =>
    refine .inr fun e => ?_
    have := (World.ownsRow.lt h g hv).1
    have := hne g e.symm
    omega
theorem OwnsS.own_ge {w : World} {base : Nat} {v : Value} {l : List (List UInt8)} (h : OwnsS w base v l) : ∀ k, v.ownBlock = some k → base ≤ k := fun k hk => (World.ownsRow.lt h k hk).1

theorem infoStr : (Tryz.prog.info? 9).map (fun i => (i.zero, i.size, i.bytes)) = some (some (.string ⟨#[]⟩), 1, 16) := by kernel_rfl

theorem cell_one {w : World} {b : Nat} {x : Value} (hc : w.cell? ⟨b, 0, none⟩ = some x) : ∀ (j : Nat) (u : Value), [x][j]? = some u → w.cell? ((⟨b, 0, none⟩ : Addr).add j) = some u := by
  intro j u hu
  cases j with
  | zero => simp at hu; subst hu; simpa [Addr.add] using hc
  | succ j => simp at hu

/-- One string is appended to a slice that the call owns. -/
theorem wp_app_str {o : Oper} {a : Act} {w : World} {K : Act → World → Prop} {Q : Exit → Act → World → Prop} (s x : Operand)
    (ho : o.op = .call { callee := .builtin .append, args := #[s, x], argTypes := #[27, 27] }) (base : Nat) (v : Value) (l : List (List UInt8)) (hs : a.eval s = v) (hown : OwnsS w base v l)
    (b : Nat) (t : List UInt8) (hx : a.eval x = .slice (some ⟨b, 0, none⟩) 1 1) (hc : w.cell? ⟨b, 0, none⟩ = some (st t)) (hl : l.length ≤ 1000000000) (hbase : base ≤ w.heap.size)
    (h : ∀ v' w', OwnsS w' base v' (l ++ [t]) → w.grownBy w' v.ownBlock → (∃ a' c', v' = .slice (some a') (l.length + 1) c') → K (a.put o.dst v') w') : o.wp Tryz.prog a w K Q := by
  obtain ⟨i0, hi, hz0, hz1, hz2⟩ := info_parts infoStr
  refine wp_append_own w s x 27 ho base 9 i0 (.string ⟨#[]⟩) 1 16 Tryz.underlying27 hi hz0 hz1 hz2 rfl (by decide) v l.length (l.map st) hs hown ⟨b, 0, none⟩ 1 1 [st t] hx rfl
    (cell_one hc) (by intro u hu; simp at hu; subst hu; rfl) (by unfold maxLen; omega) (by omega) hbase ?_
  intro v' w' h1 h2 h3
  refine h v' w' (by simpa [OwnsS] using h1) h2 ?_
  rcases h1.2 with ⟨_, h⟩ | ⟨g, cap, cur, hv, _⟩
  · omega
  · exact ⟨_, _, hv⟩
theorem wpl_app_str {ops : Array Oper} {rest : List Oper} {o : Oper} {a : Act} {w : World} {Q : Exit → Act → World → Prop} (hgd : o.guard = none) (s x : Operand)
    (ho : o.op = .call { callee := .builtin .append, args := #[s, x], argTypes := #[27, 27] }) (base : Nat) (v : Value) (l : List (List UInt8)) (hs : a.eval s = v) (hown : OwnsS w base v l)
    (b : Nat) (t : List UInt8) (hx : a.eval x = .slice (some ⟨b, 0, none⟩) 1 1) (hc : w.cell? ⟨b, 0, none⟩ = some (st t)) (hl : l.length ≤ 1000000000) (hbase : base ≤ w.heap.size)
    (h : ∀ v' w', OwnsS w' base v' (l ++ [t]) → w.grownBy w' v.ownBlock → (∃ a' c', v' = .slice (some a') (l.length + 1) c') → wpList Tryz.prog ops Q rest (a.put o.dst v') w') : wpList Tryz.prog ops Q (o :: rest) a w :=
  wpList_plain hgd fun _ hK => wp_app_str s x ho base v l hs hown b t hx hc hl hbase fun v' w' h1 h2 h3 => hK _ _ (h v' w' h1 h2 h3)

theorem ext_alloc_d (w : World) (o : Obj) : Ext w (w.alloc o).drew := ((Below.refl _ _).alloc (Nat.le_refl _) o).drew
/-- What holds behind an append to a slice that the call owns, of what was laid just ahead. -/
theorem after_app {wr w' : World} {base : Nat} {X : Obj} {av : Value} {l : List (List UInt8)} (hg : (wr.alloc X).grownBy w' av.ownBlock) (hown : OwnsS wr base av l) :
    (∀ g o, g < base → wr.heap[g]? = some o → w'.heap[g]? = some o) ∧ wr.heap.size < w'.heap.size ∧ (∀ w0 B, B ≤ base → B ≤ wr.heap.size → Below B w0 wr → Below B w0 w') := by
  refine ⟨fun g o hb ho => ?_, ?_, fun w0 B hB hs hb => ?_⟩
  · have hlt := blk_lt ho
    rw [hg.block g (by simp; omega) (fun e => by have := hown.own_ge g e.symm; omega), ← ho]
    exact heap_alloc_old wr X hlt
  · have := hg.size; simp at this; omega
  · exact (hb.alloc hs X).grown hg (by simp; omega) (fun k hk => by have := hown.own_ge k hk; omega)
/-- The iterator over a string, moved on. -/
theorem OwnsS.iterAt {w : World} {base : Nat} {v : Value} {l : List (List UInt8)} (h : OwnsS w base v l) {k : Nat} (hk : k < base) (s : ByteArray) (p : Nat) : OwnsS (w.iterAt k s p) base v l := ownsRow_iterAt h hk s p
theorem grown_of_drew {w w' : World} {r : Option Nat} (h : w.drew.grownBy w' r) : w.grownBy w' r := ⟨h.os, h.tape, h.output, h.size, h.block⟩
theorem after_app_d {wr w' : World} {base : Nat} {X : Obj} {av : Value} {l : List (List UInt8)} (hg : ((wr.alloc X).drew).grownBy w' av.ownBlock) (hown : OwnsS wr base av l) :
    (∀ g o, g < base → wr.heap[g]? = some o → w'.heap[g]? = some o) ∧ wr.heap.size < w'.heap.size ∧ (∀ w0 B, B ≤ base → B ≤ wr.heap.size → Below B w0 wr → Below B w0 w') := after_app (grown_of_drew hg) hown
theorem OwnsS.set_below {w : World} {base : Nat} {v : Value} {l : List (List UInt8)} (h : OwnsS w base v l) (p : Addr) (hp : p.block < base) (u : Value) : OwnsS (w.setCell p u) base v l :=
  h.kept (grown_set w p u) (fun k hk => by cases hk; exact hp)

/-- An object of api. -/
structure AObj where
  secret : List UInt8
  key : List UInt8
  k : Int
  n : Int

def i64ok (x : Int) : Prop := -9223372036854775808 ≤ x ∧ x ≤ 9223372036854775807

/-- The cells of an object at a place. -/
structure ObjAt (w : World) (b off : Nat) (o : AObj) : Prop where
  sec : ∃ sv, w.cell? ⟨b, off, none⟩ = some sv ∧ Bytes w sv o.secret
  klen : o.key.length = 32
  key : ∀ j x, o.key[j]? = some x → w.cell? ⟨b, off + 1 + j, none⟩ = some (.int .u8 x.toNat)
  k : w.cell? ⟨b, off + 33, none⟩ = some (.int .i64 o.k)
  n : w.cell? ⟨b, off + 34, none⟩ = some (.int .i64 o.n)
  kok : i64ok o.k
  nok : i64ok o.n

def Objs (w : World) (v : Value) (l : List AObj) : Prop :=
  l.length ≤ 9223372036854775807 ∧ ∃ a cap, v = .slice a l.length cap ∧ ∀ i o, l[i]? = some o → ∃ b off, a = some ⟨b, off, none⟩ ∧ b < w.heap.size ∧ ObjAt w b (off + i * 35) o

end Go.Proofs.YtmiokpcolpcbaaaGreatDoor
