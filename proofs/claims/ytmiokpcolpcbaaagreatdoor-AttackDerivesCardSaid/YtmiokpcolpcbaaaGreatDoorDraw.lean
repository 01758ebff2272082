/-
  A rule for regions that draw their order: one walk, in an order in which what only reads is taken as early as may be, serves every order.
  Operations are told apart by a number: 0 yields its value in whatever world; 1 yields it in every world that extends the one at hand (a load); 2 extends the world (a call, new memory); 3 may write (nothing that reads may be pending when it comes up).
-/
import Derived.OrdersHeld
import Derived.Below
import Derived.KernelRfl
import Derived.Tactics
import Derived.BigQuiet
namespace Go.Proofs.YtmiokpcolpcbaaaGreatDoor
open Go.RowKit

/-- Nothing that was there has turned. -/
def Ext (w w' : World) : Prop := Below w.heap.size w w'
theorem Ext.refl (w : World) : Ext w w := Below.refl _ w
theorem Ext.trans {a b c : World} (h : Ext a b) (k : Ext b c) : Ext a c := Below.trans h (Below.mono k h.size)

section
variable {P : Program} {ops : Array Oper} {Q : Exit → Act → World → Prop} {md : Region.Mode} {wr : Nat → Bool}

def wpAnyB (P : Program) (md : Region.Mode) (ops : Array Oper) (Q : Exit → Act → World → Prop) (wr : Nat → Bool) : Nat → Array Bool → Act → World → Prop
  | 0, listed, a, w => Region.ready md ops listed = [] ∧ Q .normal a w
  | fuel + 1, listed, a, w =>
    (Region.ready md ops listed = [] → Q .normal a w) ∧
    ∀ i ∈ Region.ready md ops listed, wpOp P ops Q i (fun a' w' => (wr i = false → Ext w w') ∧ wpAnyB P md ops Q wr fuel (listed.setIfInBounds i true) a' w') a w

theorem wpAny_of_B : ∀ (fuel : Nat) (listed : Array Bool) (a : Act) (w : World), wpAnyB P md ops Q wr fuel listed a w → wpAny P md ops Q fuel listed a w
  | 0, _, _, _, h => h
  | fuel + 1, _, _, _, h => ⟨h.1, fun i hi => wpOp_mono (fun a' w' h' => wpAny_of_B fuel _ a' w' h'.2) (h.2 i hi)⟩

/-- What is listed waits for nothing that isn't. -/
def Closed (md : Region.Mode) (ops : Array Oper) (listed : Array Bool) : Prop :=
  ∀ k o, listed.getD k false = true → ops[k]? = some o → ∀ e ∈ o.after, Region.binds md e = true → listed.getD e.on false = true

theorem closed_start (n : Nat) : Closed md ops (Array.replicate n false) := by
  intro k o h
  simp [Array.getD_eq_getD_getElem?, Array.getElem?_replicate] at h
  split at h <;> simp_all

/-- Number j waits for number i, at whatever remove. -/
def reach (md : Region.Mode) (ops : Array Oper) : Nat → Nat → Nat → Bool
  | 0, _, _ => false
  | f + 1, j, i => match ops[j]? with
    | none => false
    | some o => o.after.any fun e => Region.binds md e && (e.on == i || reach md ops f e.on i)

theorem reach_listed {listed : Array Bool} (hc : Closed md ops listed) {i : Nat} : ∀ (f j : Nat) (o : Oper), ops[j]? = some o → reach md ops f j i = true →
    (∀ e ∈ o.after, Region.binds md e = true → listed.getD e.on false = true) → listed.getD i false = true
  | 0, _, _, _, h, _ => by simp [reach] at h
  | f + 1, j, o, ho, h, hall => by
    simp only [reach, ho, Array.any_eq_true', Bool.and_eq_true, Bool.or_eq_true, beq_iff_eq] at h
    obtain ⟨e, he, hb, h⟩ := h
    rcases h with h | h
    · rw [← h]; exact hall e he hb
    · have h1 := hall e he hb
      cases hk : ops[e.on]? with
      | none => cases f <;> simp [reach, hk] at h
      | some o' => exact reach_listed hc f e.on o' hk h (fun e' he' hb' => hc e.on o' h1 hk e' he' hb')

theorem ready_preds {j : Nat} {listed : Array Bool} (hj : j ∈ Region.ready md ops listed) : listed.getD j true = false ∧ ∃ o, ops[j]? = some o ∧ ∀ e ∈ o.after, Region.binds md e = true → listed.getD e.on false = true := by
  obtain ⟨h, o, ho, hall⟩ := mem_ready.1 hj
  exact ⟨h, o, ho, fun e he hb => hall e he hb⟩

theorem Closed.set {listed : Array Bool} {i : Nat} (hc : Closed md ops listed) (hi : i ∈ Region.ready md ops listed) : Closed md ops (listed.setIfInBounds i true) := by
  intro k o hk ho e he hb
  by_cases hki : k = i
  · subst hki
    obtain ⟨_, o', ho', hall⟩ := ready_preds hi
    rw [ho] at ho'; cases ho'
    exact getD_set_true (hall e he hb)
  · rw [getD_set_ne false (Ne.symm hki)] at hk
    exact getD_set_true (hc k o hk ho e he hb)

/-- The worlds in which a value is to be yielded. -/
def Among (ld : Bool) (w x : World) : Prop := ld = true → Ext w x

theorem wpAnyB_first {i : Nat} {oi : Oper} {v : Value} {ld : Bool} (hi : ops[i]? = some oi) (hsel : ∀ (j : Nat) (o : Oper) cs b, ops[j]? = some o → o.op ≠ .select cs b)
    (hQ : ∀ c a w, Q (.panic c) (a.put oi.dst v) w → Q (.panic c) a w) (hwr : ld = true → ∀ j, wr j = true → reach md ops ops.size j i = true) :
    ∀ (fuel : Nat) (listed : Array Bool) (a : Act) (w : World), Closed md ops listed →
      (∀ j oj, ops[j]? = some oj → j ≠ i → listed.getD j true = false → (∀ e ∈ oj.after, Region.binds md e = true → e.on ≠ i) → oi.apart ops oj = true) →
      i ∈ Region.ready md ops listed → YieldsIf P ops (Among ld w) oi v a →
      wpAnyB P md ops Q wr fuel (listed.setIfInBounds i true) (a.put oi.dst v) w → wpAnyB P md ops Q wr (fuel + 1) listed a w := by
  intro fuel
  induction fuel with
  | zero =>
    intro listed a w _ _ hr hy H
    refine ⟨fun h => (by rw [h] at hr; cases hr), fun j hj => ?_⟩
    by_cases hji : j = i
    · subst hji; exact hy.wpOp hi (fun _ => Ext.refl w) ⟨fun _ => Ext.refl w, H⟩
    · have := ready_mono hj hji
      rw [H.1] at this
      cases this
  | succ fuel ih =>
    intro listed a w hcl hfree hr hy H
    refine ⟨fun h => (by rw [h] at hr; cases hr), fun j hj => ?_⟩
    by_cases hji : j = i
    · subst hji; exact hy.wpOp hi (fun _ => Ext.refl w) ⟨fun _ => Ext.refl w, H⟩
    · have h1 := H.2 j (ready_mono hj hji)
      obtain ⟨hjun, oj, hoj, hall⟩ := ready_preds hj
      have hiun := (ready_preds hr).1
      have hnot : ∀ e ∈ oj.after, Region.binds md e = true → e.on ≠ i := fun e he hb heq => by
        have h1 := hall e he hb
        rw [heq] at h1
        rcases Nat.lt_or_ge i listed.size with h' | h'
        · simp [h'] at hiun h1; rw [hiun] at h1; cases h1
        · simp [Array.getElem?_eq_none h'] at h1
      have h2 := wpOp_putIf hoj (hfree j oj hoj hji hjun hnot) (fun cs b => hsel i oi cs b hi) (fun cs b => hsel j oj cs b hoj) hQ hy h1
      have hfree' : ∀ k ok, ops[k]? = some ok → k ≠ i → (listed.setIfInBounds j true).getD k true = false →
          (∀ e ∈ ok.after, Region.binds md e = true → e.on ≠ i) → oi.apart ops ok = true := fun k ok hk hki hun hno => by
        refine hfree k ok hk hki ?_ hno
        by_cases hjk : j = k
        · subst hjk; exact hjun
        · rw [getD_set_ne true hjk] at hun; exact hun
      have hwj : ld = true → wr j = false := fun hl => by
        cases hw : wr j with
        | false => rfl
        | true =>
          have hli := reach_listed hcl ops.size j oj hoj (hwr hl j hw) hall
          rcases Nat.lt_or_ge i listed.size with h' | h'
          · simp [h'] at hiun hli; rw [hiun] at hli; cases hli
          · simp [Array.getElem?_eq_none h'] at hli
      refine wpOp_mono (fun a' w' h3 => ⟨h3.2.1, ih (listed.setIfInBounds j true) a' w' (hcl.set hj) hfree' (ready_mono hr (Ne.symm hji)) ?_ ?_⟩) h2
      · rcases h3.1 with ⟨hw, hv⟩ | hn
        · exact .inl ⟨hw, fun x hx => hv x (fun hl => (h3.2.1 (hwj hl)).trans (hx hl))⟩
        · exact .inr hn
      · rw [Array.setIfInBounds_comm _ _ hji]
        exact h3.2.2

/-- One operation that only reads. -/
def lightOp (P : Program) (o : Oper) (a : Act) (C : World → Prop) (K : Act → Prop) : Prop := ∃ v, (∀ x, C x → (execOp a.eval o).run P x = .ok (.value v) x) ∧ K (a.put o.dst v)

/-- The walk, in the order given. -/
def wpE (P : Program) (ops : Array Oper) (Q : Exit → Act → World → Prop) : List (Nat × Nat) → Act → World → Prop
  | [], a, w => Q .normal a w
  | (i, c) :: rest, a, w => match ops[i]? with
    | none => False
    | some o =>
      if c ≤ 1 then (if Region.wanted o (yielded ops a.tmps) then lightOp P o a (Among (c == 1) w) (fun a' => wpE P ops Q rest a' w) else wpE P ops Q rest (a.put o.dst undef) w)
      else (if Region.wanted o (yielded ops a.tmps) then o.wp P a w (fun a' w' => (c = 2 → Ext w w') ∧ wpE P ops Q rest a' w') Q ∨ (o.asks P a w ∧ LetsOut Q) else wpE P ops Q rest (a.put o.dst undef) w)

def writes (π : List (Nat × Nat)) (j : Nat) : Bool := π.any fun p => p.1 == j && !(p.2 == 2) && !(p.2 ≤ 1)

def okE (md : Region.Mode) (ops : Array Oper) (π0 : List (Nat × Nat)) : List (Nat × Nat) → Array Bool → Bool
  | [], listed => (Region.ready md ops listed).isEmpty
  | (i, c) :: rest, listed =>
    (if c ≤ 1 then (Region.ready md ops listed).contains i && Region.free md ops listed i && (!(c == 1) || π0.all fun p => !(writes π0 p.1) || reach md ops ops.size p.1 i)
     else Region.ready md ops listed == [i]) && okE md ops π0 rest (listed.setIfInBounds i true)

theorem writes_mem {π : List (Nat × Nat)} {j : Nat} (h : writes π j = true) : ∃ p ∈ π, p.1 = j := by
  simp only [writes, List.any_eq_true, Bool.and_eq_true, beq_iff_eq] at h
  obtain ⟨p, hp, ⟨h1, _⟩, _⟩ := h
  exact ⟨p, hp, h1⟩

theorem wpAnyB_of_E (hs : Region.noSelect ops = true) (hQ : ∀ c a d v w, Q (.panic c) (Act.put a d v) w → Q (.panic c) a w) (π0 : List (Nat × Nat)) (hun : ∀ p ∈ π0, ∀ q ∈ π0, p.1 = q.1 → p = q) :
    ∀ (π : List (Nat × Nat)) (listed : Array Bool) (a : Act) (w : World), (∀ p ∈ π, p ∈ π0) → Closed md ops listed → okE md ops π0 π listed = true → wpE P ops Q π a w →
      wpAnyB P md ops Q (writes π0) π.length listed a w
  | [], listed, a, w, _, _, hB, h => ⟨by simpa [okE] using hB, h⟩
  | (i, c) :: rest, listed, a, w, hsub, hcl, hB, h => by
    simp only [okE, Bool.and_eq_true] at hB
    obtain ⟨hB1, hB2⟩ := hB
    simp only [wpE] at h
    cases hi : ops[i]? with
    | none => simp [hi] at h
    | some o =>
      simp only [hi] at h
      by_cases hc : c ≤ 1
      · simp only [hc, if_true, Bool.and_eq_true, Bool.or_eq_true] at h hB1
        obtain ⟨⟨hr, hf⟩, hw⟩ := hB1
        have hr' : i ∈ Region.ready md ops listed := by simpa using hr
        have go : ∀ v, YieldsIf P ops (Among (c == 1) w) o v a → wpE P ops Q rest (a.put o.dst v) w → wpAnyB P md ops Q (writes π0) (rest.length + 1) listed a w := fun v hy hk =>
          wpAnyB_first hi (Region.noSelect_spec hs) (fun c' a' w' => hQ c' a' _ _ w') (fun hl j hj => by
              rcases hw with hw | hw
              · simp [hl] at hw
              · obtain ⟨p, hp, rfl⟩ := writes_mem hj
                have := List.all_eq_true.1 hw p hp
                simpa [hj] using this) rest.length listed a w hcl (Region.free_spec hi hf) hr' hy
            (wpAnyB_of_E hs hQ π0 hun rest _ _ w (fun p hp => hsub p (List.mem_cons_of_mem _ hp)) (hcl.set hr') hB2 hk)
        by_cases hwt : Region.wanted o (yielded ops a.tmps) = true
        · simp only [hwt, if_true] at h
          obtain ⟨v, h1, h2⟩ := h
          exact go v (.inl ⟨hwt, h1⟩) h2
        · simp only [hwt] at h
          exact go undef (.inr ⟨by simpa using hwt, rfl⟩) h
      · simp only [if_neg hc] at h hB1
        have hr : Region.ready md ops listed = [i] := by simpa using hB1
        have hr' : i ∈ Region.ready md ops listed := by rw [hr]; simp
        refine ⟨fun h0 => (by rw [hr] at h0; cases h0), fun j hj => ?_⟩
        rw [hr] at hj
        obtain rfl : j = i := by simpa using hj
        have rcr : ∀ a' w', wpE P ops Q rest a' w' → wpAnyB P md ops Q (writes π0) rest.length (listed.setIfInBounds j true) a' w' := fun a' w' hk =>
          wpAnyB_of_E hs hQ π0 hun rest _ a' w' (fun p hp => hsub p (List.mem_cons_of_mem _ hp)) (hcl.set hr') hB2 hk
        have hext : ∀ w', (c = 2 → Ext w w') → writes π0 j = false → Ext w w' := fun w' he hw => by
          have hm := hsub (j, c) (by simp)
          refine he ?_
          have := List.any_eq_false.1 hw (j, c) hm
          simpa [hc] using this
        unfold wpOp
        simp only [hi]
        split
        · rename_i hwt
          simp only [hwt, if_true] at h
          rcases h with h | h
          · exact .inl (Oper.wp_mono (fun a' w' h' => ⟨hext w' h'.1, rcr _ _ h'.2⟩) h)
          · exact .inr h
        · rename_i hwt
          simp only [hwt] at h
          exact ⟨fun _ => Ext.refl w, rcr _ _ h⟩

/-- The same, shut: Lean's unifier does not look behind it. -/
structure WE (P : Program) (ops : Array Oper) (Q : Exit → Act → World → Prop) (π : List (Nat × Nat)) (a : Act) (w : World) : Prop where
  out : wpE P ops Q π a w

def uniq (π : List (Nat × Nat)) : Bool := π.all fun p => π.all fun q => !(p.1 == q.1) || p == q

theorem wp_region_early {id : Nat} {Q : Exit → Act → World → Prop} {a : Act} {w : World} {l : List Oper} (π : List (Nat × Nat)) (hm : P.follows .mixedOrders = true)
    (hB : (Region.noSelect l.toArray && π.length == l.length && uniq π && okE .any l.toArray π π (Array.replicate l.length false)) = true)
    (hQ : ∀ c a d v w, Q (.panic c) (Act.put a d v) w → Q (.panic c) a w)
    (h : WE P l.toArray Q π a w.drew) : (Code.region id l.toArray true).wp P Q a w := by
  simp only [Bool.and_eq_true, beq_iff_eq] at hB
  obtain ⟨⟨⟨hs, hlen⟩, hu⟩, hok⟩ := hB
  have hun : ∀ p ∈ π, ∀ q ∈ π, p.1 = q.1 → p = q := fun p hp q hq he => by
    have := List.all_eq_true.1 (List.all_eq_true.1 hu p hp) q hq
    simpa [he] using this
  refine wp_region_any hm (wpAny_of_B (wr := writes π) _ _ _ _ ?_)
  have := wpAnyB_of_E (P := P) (md := .any) hs hQ π hun π (Array.replicate l.length false) a w.drew (fun p hp => hp) (closed_start _) hok h.out
  simpa [hlen] using this

/-- The worlds that extend one, below a block's number. -/
structure ExtN (N : Nat) (w : World) where
  x : World
  h : Below N w x
instance (N : Nat) (w : World) : Nonempty (ExtN N w) := ⟨⟨w, Below.refl _ w⟩⟩
theorem ExtN.cell {N : Nat} {w : World} (y : ExtN N w) (b o : Nat) (hb : b < N) : y.x.cell? ⟨b, o, none⟩ = w.cell? ⟨b, o, none⟩ := Below.cell y.h (p := ⟨b, o, none⟩) hb

/-- Operations that give a value, and are no calls of Go functions. -/
def lightKind : Op → Bool
  | .move _ | .assign _ | .pick .. | .load .. | .binOp .. | .unOp .. | .convert .. | .sliceToArrayPointer .. | .makeInterface .. | .makeFunc .. | .slice .. | .fieldAddr .. | .field .. | .indexAddr .. | .index .. | .lookup .. | .extract .. | .build .. | .nilCheck .. => true
  | .call c => match c.callee with
    | .builtin .len | .builtin .cap | .builtin .min | .builtin .max => true
    | _ => false
  | _ => false

theorem v_only {s : Sem Value} {w w' : World} {n : Next} (h : Sem.run P (do pure (Next.value (← s)) : Sem Next) w = .ok n w') : ∃ v, n = .value v := by
  rw [Sem.run_bind] at h
  cases hs : s.run P w with
  | ok a x => rw [hs] at h; simp [Result.andThen] at h; exact ⟨a, h.1.symm⟩
  | halt a x => rw [hs] at h; simp [Result.andThen] at h

theorem v_then {r : Result Value} {w' : World} {n : Next} (h : (r.andThen fun a w' => Result.ok (Next.value a) w') = .ok n w') : ∃ v, n = .value v := by
  cases r with
  | ok a x => simp [Result.andThen] at h; exact ⟨a, h.1.symm⟩
  | halt a x => simp [Result.andThen] at h

theorem value_only {o : Oper} (hk : lightKind o.op = true) {ρ : Operand → Value} {w w' : World} {n : Next} (h : (execOp ρ o).run P w = .ok n w') : ∃ v, n = .value v := by
  unfold execOp at h
  cases ho : o.op with
  | move x => rw [ho] at h; simp at h; exact ⟨_, h.1.symm⟩
  | assign x => rw [ho] at h; simp at h; exact ⟨_, h.1.symm⟩
  | pick c a b =>
    rw [ho] at h
    refine v_only (P := P) (s := do pure (if ← asBool (ρ c) then ρ a else ρ b)) (w := w) (w' := w') ?_
    simp only [Sem.run_bind] at h ⊢
    cases hs : (asBool (ρ c)).run P w with
    | ok a x => rw [hs] at h; simpa [Result.andThen] using h
    | halt a x => rw [hs] at h; simp [Result.andThen] at h
  | load => rw [ho] at h; exact v_only h
  | binOp => rw [ho] at h; exact v_only h
  | unOp => rw [ho] at h; exact v_only h
  | convert => rw [ho] at h; exact v_only h
  | sliceToArrayPointer => rw [ho] at h; exact v_only h
  | makeInterface => rw [ho] at h; exact v_only h
  | makeFunc => rw [ho] at h; exact v_only h
  | slice => rw [ho] at h; exact v_only h
  | fieldAddr => rw [ho] at h; exact v_only h
  | field => rw [ho] at h; exact v_only h
  | indexAddr => rw [ho] at h; exact v_only h
  | index => rw [ho] at h; exact v_only h
  | lookup => rw [ho] at h; exact v_only h
  | extract => rw [ho] at h; exact v_only h
  | build => rw [ho] at h; exact v_only h
  | nilCheck x =>
    rw [ho] at h
    dsimp only at h
    split at h
    · simp [runtimePanic] at h
    · simp [runtimePanic] at h
    · simp [runtimePanic] at h
    · split at h
      · simp [runtimePanic] at h
      · simp only [Sem.run_bind] at h
        cases hs : program.run P w with
        | halt x y => rw [hs] at h; simp [Result.andThen] at h
        | ok x y =>
          rw [hs] at h
          simp only [Result.andThen] at h
          split at h
          · split at h
            · simp [unsupported] at h
            · simp at h; exact ⟨_, h.1.symm⟩
          · cases h
      · simp at h; exact ⟨_, h.1.symm⟩
    · simp at h; exact ⟨_, h.1.symm⟩
  | call c =>
    rw [ho] at h hk
    simp only [lightKind] at hk
    split at hk <;> first
      | (cases hk; done)
      | (rename_i hc; simp only [resolve, hc, Sem.run_bind, Sem.run_pure, Result.andThen_ok, invoke, builtin] at h; exact v_then h)
  | _ => rw [ho] at hk; simp [lightKind] at hk

theorem lit_of_quiet {o : Oper} (hk : lightKind o.op = true) {a : Act} {C : World → Prop} {w : World} {v : Value} (h : o.quietAt P a C w v) : (execOp a.eval o).run P w = .ok (.value v) w := by
  unfold Oper.quietAt at h
  cases hr : (execOp a.eval o).run P w with
  | ok n w' =>
    obtain ⟨u, rfl⟩ := value_only hk hr
    rw [hr] at h
    obtain ⟨rfl, rfl⟩ := h
    rfl
  | halt x w' => rw [hr] at h; exact h.elim

theorem wanted_free {o : Oper} {y : Nat → Option Bool} (hg : o.guard = none) : Region.wanted o y = true := by simp only [Region.wanted, hg]
/-- What a guard says, by the Bool in its slot. -/
theorem wanted_yes {o : Oper} {tmps : Array Value} {j d : Nat} {g B : Bool} (hg : o.guard = some (j, g)) (hj : (ops.toList[j]?).bind (·.dst) = some d) (hv : tmps.toList[d]? = some (.bool B)) (hB : B = g) : Region.wanted o (yielded ops tmps) = true := by
  have h1 : ops[j]? = ops.toList[j]? := by simp
  have h2 : tmps[d]? = tmps.toList[d]? := by simp
  simp only [Region.wanted, yielded, hg, h1, hj, Option.bind_some, h2, hv, hB]
  cases g <;> rfl
theorem wanted_no {o : Oper} {tmps : Array Value} {j d : Nat} {g B : Bool} (hg : o.guard = some (j, g)) (hj : (ops.toList[j]?).bind (·.dst) = some d) (hv : tmps.toList[d]? = some (.bool B)) (hB : (!B) = g) : Region.wanted o (yielded ops tmps) = false := by
  have h1 : ops[j]? = ops.toList[j]? := by simp
  have h2 : tmps[d]? = tmps.toList[d]? := by simp
  simp only [Region.wanted, yielded, hg, h1, hj, Option.bind_some, h2, hv, ← hB]
  cases B <;> rfl
/-- A guard's Bool is parted. -/
theorem wpE_split {i c : Nat} {o : Oper} {rest : List (Nat × Nat)} {a : Act} {w : World} {j d : Nat} {g B : Bool} (_ : ops.toList[i]? = some o) (_ : o.guard = some (j, g)) (_ : (ops.toList[j]?).bind (·.dst) = some d)
    (_ : a.tmps.toList[d]? = some (.bool B)) (ht : B = true → WE P ops Q ((i, c) :: rest) a w) (hf : B = false → WE P ops Q ((i, c) :: rest) a w) : WE P ops Q ((i, c) :: rest) a w := by
  cases B
  · exact hf rfl
  · exact ht rfl

theorem wpE_nil {a : Act} {w : World} (h : Q .normal a w) : WE P ops Q [] a w := ⟨h⟩
/-- The guard says no. -/
theorem wpE_no {i c : Nat} {o : Oper} {rest : List (Nat × Nat)} {a : Act} {w : World} (ho' : ops.toList[i]? = some o) (hw : Region.wanted o (yielded ops a.tmps) = false) (h : WE P ops Q rest (a.put o.dst undef) w) : WE P ops Q ((i, c) :: rest) a w := by
  have ho : ops[i]? = some o := by rw [← ho']; simp
  refine ⟨?_⟩
  simp only [wpE, ho, hw]
  split <;> exact h.out
/-- A step that reads no memory. -/
theorem wpE_0 {i : Nat} {o : Oper} {rest : List (Nat × Nat)} {a : Act} {w : World} (ho' : ops.toList[i]? = some o) (hk : lightKind o.op = true) (hw : Region.wanted o (yielded ops a.tmps) = true)
    (h : ∀ K : Act → Prop, (∀ a, WE P ops Q rest a w → K a) → o.quiet P a (fun _ => True) K) : WE P ops Q ((i, 0) :: rest) a w := by
  have ho : ops[i]? = some o := by rw [← ho']; simp
  obtain ⟨v, h1, h2⟩ := h _ (fun _ h => h)
  refine ⟨?_⟩
  simp only [wpE, ho, Nat.zero_le, if_true, hw]
  exact ⟨v, fun x _ => lit_of_quiet hk (h1 x trivial), h2.out⟩
/-- A step that reads memory. -/
theorem wpE_1 {i : Nat} {o : Oper} {rest : List (Nat × Nat)} {a : Act} {w : World} (N : Nat) (hN : N ≤ w.heap.size) (ho' : ops.toList[i]? = some o) (hk : lightKind o.op = true) (hw : Region.wanted o (yielded ops a.tmps) = true)
    (h : ∀ K : Act → Prop, (∀ a, WE P ops Q rest a w → K a) → o.quiet P a (fun x => ∃ y : ExtN N w, x = y.x) K) : WE P ops Q ((i, 1) :: rest) a w := by
  have ho : ops[i]? = some o := by rw [← ho']; simp
  obtain ⟨v, h1, h2⟩ := h _ (fun _ h => h)
  refine ⟨?_⟩
  simp only [wpE, ho, Nat.le_refl, if_true, hw]
  exact ⟨v, fun x hx => lit_of_quiet hk (h1 x ⟨⟨x, (hx (by rfl)).mono hN⟩, rfl⟩), h2.out⟩
/-- A step that extends the world. -/
theorem wpE_2 {i : Nat} {o : Oper} {rest : List (Nat × Nat)} {a : Act} {w : World} (ho' : ops.toList[i]? = some o)
    (h : ∀ K : Act → World → Prop, (∀ a' w', Ext w w' → WE P ops Q rest a' w' → K a' w') → if Region.wanted o (yielded ops a.tmps) then o.wp P a w K Q else K (a.put o.dst undef) w) :
    WE P ops Q ((i, 2) :: rest) a w := by
  have ho : ops[i]? = some o := by rw [← ho']; simp
  have := h (fun a' w' => Ext w w' ∧ wpE P ops Q rest a' w') (fun _ _ h1 h2 => ⟨h1, h2.out⟩)
  refine ⟨?_⟩
  simp only [wpE, ho]
  rw [if_neg (by decide)]
  split
  · rename_i hw
    simp only [hw, if_true] at this
    exact .inl (Oper.wp_mono (fun a' w' h' => ⟨fun _ => h'.1, h'.2⟩) this)
  · rename_i hw
    rw [if_neg hw] at this
    exact this.2
/-- A step that writes. -/
theorem wpE_3 {i : Nat} {o : Oper} {rest : List (Nat × Nat)} {a : Act} {w : World} (ho' : ops.toList[i]? = some o)
    (h : ∀ K : Act → World → Prop, (∀ a' w', WE P ops Q rest a' w' → K a' w') → if Region.wanted o (yielded ops a.tmps) then o.wp P a w K Q else K (a.put o.dst undef) w) :
    WE P ops Q ((i, 3) :: rest) a w := by
  have ho : ops[i]? = some o := by rw [← ho']; simp
  have := h (fun a' w' => wpE P ops Q rest a' w') (fun _ _ h2 => h2.out)
  refine ⟨?_⟩
  simp only [wpE, ho]
  rw [if_neg (by decide)]
  split
  · rename_i hw
    simp only [hw, if_true] at this
    exact .inl (Oper.wp_mono (fun a' w' h' => ⟨fun h => absurd h (by decide), h'⟩) this)
  · rename_i hw
    rwa [if_neg hw] at this
end
end Go.Proofs.YtmiokpcolpcbaaaGreatDoor
