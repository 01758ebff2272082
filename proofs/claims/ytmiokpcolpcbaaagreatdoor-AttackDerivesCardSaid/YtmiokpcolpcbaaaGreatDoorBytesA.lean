/- Slices of bytes that the call owns; slices.Clone, slices.Repeat at them. -/
import Derived.Test.YtmiokpcolpcbaaaGreatDoorRep
import Derived.Laws.CopyOwn
import Derived.Laws.MakeOwn
import Derived.Deep.OwnRows
namespace Go.Proofs.YtmiokpcolpcbaaaGreatDoor
open Go.RowKit

/-- A byte, as a cell. -/
abbrev bv (x : UInt8) : Value := .int .u8 x.toNat
/-- A slice of bytes that the call owns. -/
def OwnsB (w : World) (base : Nat) (v : Value) (l : List UInt8) : Prop := w.ownsRow base 5 1 v l.length (l.map bv)
theorem OwnsB.bytes {w : World} {base : Nat} {v : Value} {l : List UInt8} (h : OwnsB w base v l) : Bytes w v l := Row.of_owns h
theorem OwnsB.nil (w : World) (base : Nat) : OwnsB w base (.slice none 0 0) [] := World.ownsRow_nil w base _ 1
theorem OwnsB.le {w : World} {base base' : Nat} {v : Value} {l : List UInt8} (h : OwnsB w base v l) (hb : base' ≤ base) : OwnsB w base' v l := by
  obtain ⟨h0, h1⟩ := h
  refine ⟨h0, ?_⟩
  rcases h1 with h | ⟨g, cap, cur, hv, hg, r⟩
  · exact .inl h
  · exact .inr ⟨g, cap, cur, hv, Nat.le_trans hb hg, r⟩
theorem OwnsB.mono {w w' : World} {base : Nat} {v : Value} {l : List UInt8} (h : OwnsB w base v l) (hb : Below w.heap.size w w') : OwnsB w' base v l := by
  refine World.ownsRow.kept (w := w) (row := none) h ⟨hb.os, hb.tape, hb.output, hb.size, fun k hk _ => hb.block k hk⟩ ?_
  cases hv : v.ownBlock <;> simp
theorem OwnsB.own_ge {w : World} {base : Nat} {v : Value} {l : List UInt8} (h : OwnsB w base v l) : ∀ k, v.ownBlock = some k → base ≤ k := fun k hk => (World.ownsRow.lt h k hk).1
theorem OwnsB.split {w : World} {base : Nat} {v : Value} {l : List UInt8} (h : OwnsB w base v l) : ∃ a cap, v = .slice a l.length cap ∧ l.length ≤ cap := by
  obtain ⟨_, a, cap, h1, h2, _⟩ := h.bytes
  exact ⟨a, cap, h1, h2⟩
theorem Bytes.split {w : World} {v : Value} {l : List UInt8} (h : Bytes w v l) : ∃ a cap, v = .slice a l.length cap ∧ l.length ≤ cap := by
  obtain ⟨_, a, cap, h1, h2, _⟩ := h
  exact ⟨a, cap, h1, h2⟩
/-- A byte, where there is one. -/
theorem Bytes.get {w : World} {a : Option Addr} {n cap : Nat} {l : List UInt8} (h : Bytes w (.slice a n cap) l) {i : Nat} {t : UInt8} (hi : l[i]? = some t) :
    ∃ b off, a = some ⟨b, off, none⟩ ∧ b < w.heap.size ∧ w.cell? ⟨b, off + i, none⟩ = some (bv t) := by
  obtain ⟨h0, a', cap', h1, hcap, h2⟩ := h
  cases h1
  exact h2 i (bv t) (by simp [hi])
theorem infoByte : (Tryz.prog.info? 5).map (fun i => (i.zero, i.size, i.bytes)) = some (some (.int .u8 0), 1, 1) := by kernel_rfl
theorem bytes_one {l : List UInt8} : ∀ u ∈ l.map bv, u.oneCell' = true := by
  intro u hu; obtain ⟨x, _, rfl⟩ := List.mem_map.1 hu; rfl

/-- Bytes are appended to a slice that the call owns. -/
theorem wp_app_bytes {o : Oper} {a : Act} {w : World} {K : Act → World → Prop} {Q : Exit → Act → World → Prop} (s x : Operand)
    (ho : o.op = .call { callee := .builtin .append, args := #[s, x], argTypes := #[35, 35] }) (base : Nat) (v : Value) (l : List UInt8) (hs : a.eval s = v) (hown : OwnsB w base v l)
    (ad : Addr) (c : Nat) (t : List UInt8) (hx : a.eval x = .slice (some ad) t.length c) (hc : ∀ (j : Nat) u, t[j]? = some u → w.cell? (ad.add j) = some (bv u)) (hl : l.length + t.length ≤ 100000000000) (hbase : base ≤ w.heap.size)
    (h : ∀ v' w', OwnsB w' base v' (l ++ t) → w.grownBy w' v.ownBlock → (v' = .slice none 0 0 ↔ v = .slice none 0 0 ∧ t.length = 0) → K (a.put o.dst v') w') : o.wp Tryz.prog a w K Q := by
  obtain ⟨i0, hi, hz0, hz1, hz2⟩ := info_parts infoByte
  refine wp_append_own w s x 35 ho base 5 i0 (.int .u8 0) 1 1 Tryz.underlying35 hi hz0 hz1 hz2 rfl (by decide) v l.length (l.map bv) hs hown ad t.length c (t.map bv) hx (by simp)
    (fun j u hj => ?_) bytes_one (by unfold maxLen; omega) (by omega) hbase ?_
  · rw [List.getElem?_map, Option.map_eq_some_iff] at hj
    obtain ⟨y, hy, rfl⟩ := hj
    exact hc j y hy
  · intro v' w' h1 h2 h3
    exact h v' w' (by simpa [OwnsB] using h1) h2 h3
theorem wpl_app_bytes {ops : Array Oper} {rest : List Oper} {o : Oper} {a : Act} {w : World} {Q : Exit → Act → World → Prop} (hgd : o.guard = none) (s x : Operand)
    (ho : o.op = .call { callee := .builtin .append, args := #[s, x], argTypes := #[35, 35] }) (base : Nat) (v : Value) (l : List UInt8) (hs : a.eval s = v) (hown : OwnsB w base v l)
    (ad : Addr) (c : Nat) (t : List UInt8) (hx : a.eval x = .slice (some ad) t.length c) (hc : ∀ (j : Nat) u, t[j]? = some u → w.cell? (ad.add j) = some (bv u)) (hl : l.length + t.length ≤ 100000000000) (hbase : base ≤ w.heap.size)
    (h : ∀ v' w', OwnsB w' base v' (l ++ t) → w.grownBy w' v.ownBlock → (v' = .slice none 0 0 ↔ v = .slice none 0 0 ∧ t.length = 0) → wpList Tryz.prog ops Q rest (a.put o.dst v') w') : wpList Tryz.prog ops Q (o :: rest) a w :=
  wpList_plain hgd fun _ hK => wp_app_bytes s x ho base v l hs hown ad c t hx hc hl hbase fun v' w' h1 h2 h3 => hK _ _ (h v' w' h1 h2 h3)

theorem OwnsB.made (w : World) (base : Nat) (hb : base ≤ w.heap.size) : OwnsB (w.alloc (.cells #[] 5)) base (.slice (some ⟨w.heap.size, 0, none⟩) 0 0) [] := World.ownsRow_made w #[] 0 hb (Nat.zero_le _) rfl

set_option maxHeartbeats 1000000 in
/-- slices.Clone at a slice of bytes. -/
theorem cloneb_any (v : Value) (l : List UInt8) (w : World) (h : Bytes w v l) (hl : l.length ≤ 1000000) :
    Calls Tryz.prog 40 #[v] w fun e w' => ∃ av, e = .returned av ∧ OwnsB w' w.heap.size av l ∧ Below w.heap.size w w' := by
  obtain ⟨a, cap, rfl, hcap⟩ := h.split
  have q := fun (w : World) (a : Option Addr) (n c n' c' : Nat) => Lib.run_eql_slice_nil (P := Tryz.prog) w 35 5 a n c n' c' Tryz.underlying35
  cases a with
  | none =>
    obtain rfl : l = [] := by
      cases l with
      | nil => rfl
      | cons x r => obtain ⟨b, off, e, _⟩ := h.get (i := 0) (t := x) rfl; cases e
    go_enter Tryz.func40, Tryz.ntmps40
    go_wp2
    go_ret
    exact ⟨_, rfl, OwnsB.nil _ _, Below.refl _ _⟩
  | some ad =>
    have hc : ∀ (j : Nat) u, l[j]? = some u → (w.alloc (.cells #[] 5)).cell? (ad.add j) = some (bv u) := fun j u hj => by
      obtain ⟨b, off, e, hb, hcell⟩ := h.get hj
      cases e
      rw [Addr.add_lit]
      exact Lib.cell?_alloc_some _ hcell
    have HC := Lib.hid hc
    clear hc
    go_enter Tryz.func40, Tryz.ntmps40
    go_wp2_with (at_builtin; refine wpl_app_bytes rfl (.tmp 5) (.tmp 6) rfl w.heap.size _ [] rfl (OwnsB.made w w.heap.size (Nat.le_refl _)) ad cap l rfl HC.out (by simp; omega) (by simp) ?_; intro v' w' q1 q2 q3)
    go_ret
    exact ⟨_, rfl, by simpa using q1, ((Below.refl _ w).alloc (Nat.le_refl _) _).grown q2 (by simp) (fun k hk => (OwnsB.made w w.heap.size (Nat.le_refl _)).own_ge k hk)⟩
end Go.Proofs.YtmiokpcolpcbaaaGreatDoor
