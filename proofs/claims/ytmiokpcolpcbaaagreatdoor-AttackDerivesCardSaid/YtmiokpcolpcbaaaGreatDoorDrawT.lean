/-
  The rule of Draw for regions in which two operations that extend the world may come up, the one or the other: an order that forks.
-/
import Derived.Test.YtmiokpcolpcbaaaGreatDoorDraw
namespace Go.Proofs.YtmiokpcolpcbaaaGreatDoor
open Go.RowKit

/-- An order that forks. -/
inductive Tree
  | leaf (π : List (Nat × Nat))
  | fork (π : List (Nat × Nat)) (i j : Nat) (l r : Tree)

section
variable {P : Program} {ops : Array Oper} {Q : Exit → Act → World → Prop} {md : Region.Mode} {wr : Nat → Bool} {E : Act → World → Prop}

/-- The walk, in the order given, up to what is asked at its end. -/
def wpG (P : Program) (ops : Array Oper) (Q : Exit → Act → World → Prop) (E : Act → World → Prop) : List (Nat × Nat) → Act → World → Prop
  | [], a, w => E a w
  | (i, c) :: rest, a, w => match ops[i]? with
    | none => False
    | some o =>
      if c ≤ 1 then (if Region.wanted o (yielded ops a.tmps) then lightOp P o a (Among (c == 1) w) (fun a' => wpG P ops Q E rest a' w) else wpG P ops Q E rest (a.put o.dst undef) w)
      else (if Region.wanted o (yielded ops a.tmps) then o.wp P a w (fun a' w' => (c = 2 → Ext w w') ∧ wpG P ops Q E rest a' w') Q ∨ (o.asks P a w ∧ LetsOut Q) else wpG P ops Q E rest (a.put o.dst undef) w)
/-- One operation that extends the world. -/
def hvT (P : Program) (ops : Array Oper) (Q : Exit → Act → World → Prop) (i : Nat) (K : Act → World → Prop) (a : Act) (w : World) : Prop := match ops[i]? with
  | none => False
  | some o => if Region.wanted o (yielded ops a.tmps) then o.wp P a w (fun a' w' => Ext w w' ∧ K a' w') Q ∨ (o.asks P a w ∧ LetsOut Q) else K (a.put o.dst undef) w
def wpT (P : Program) (ops : Array Oper) (Q : Exit → Act → World → Prop) : Tree → Act → World → Prop
  | .leaf π, a, w => wpG P ops Q (Q .normal) π a w
  | .fork π i j l r, a, w => wpG P ops Q (fun a w => hvT P ops Q i (wpT P ops Q l) a w ∧ hvT P ops Q j (wpT P ops Q r) a w) π a w

def okS (md : Region.Mode) (ops : Array Oper) (π0 : List (Nat × Nat)) (i c : Nat) (listed : Array Bool) : Bool :=
  if c ≤ 1 then (Region.ready md ops listed).contains i && Region.free md ops listed i && (!(c == 1) || π0.all fun p => !(writes π0 p.1) || reach md ops ops.size p.1 i) else Region.ready md ops listed == [i]
def okG (md : Region.Mode) (ops : Array Oper) (π0 : List (Nat × Nat)) : List (Nat × Nat) → Array Bool → Option (Array Bool)
  | [], listed => some listed
  | (i, c) :: rest, listed =>
    if okS md ops π0 i c listed then okG md ops π0 rest (listed.setIfInBounds i true) else none
def okT (md : Region.Mode) (ops : Array Oper) (π0 : List (Nat × Nat)) : Tree → Nat → Array Bool → Bool
  | .leaf π, n, listed => n == π.length && match okG md ops π0 π listed with
    | none => false
    | some l' => (Region.ready md ops l').isEmpty
  | .fork π i j l r, n, listed => match okG md ops π0 π listed with
    | none => false
    | some l' => (Region.ready md ops l' == [i, j]) && decide (π.length + 1 ≤ n) && okT md ops π0 l (n - π.length - 1) (l'.setIfInBounds i true) && okT md ops π0 r (n - π.length - 1) (l'.setIfInBounds j true)
def Tree.pairs : Tree → List (Nat × Nat)
  | .leaf π => π
  | .fork π i j l r => π ++ (i, 2) :: (j, 2) :: (l.pairs ++ r.pairs)

theorem wpAnyB_of_G (hs : Region.noSelect ops = true) (hQ : ∀ c a d v w, Q (.panic c) (Act.put a d v) w → Q (.panic c) a w) (π0 : List (Nat × Nat)) (hun : ∀ p ∈ π0, ∀ q ∈ π0, p.1 = q.1 → p = q) {n : Nat} {l' : Array Bool} :
    ∀ (π : List (Nat × Nat)) (listed : Array Bool) (a : Act) (w : World), (∀ p ∈ π, p ∈ π0) → Closed md ops listed → okG md ops π0 π listed = some l' → wpG P ops Q E π a w →
      (∀ a w, Closed md ops l' → E a w → wpAnyB P md ops Q (writes π0) n l' a w) → wpAnyB P md ops Q (writes π0) (π.length + n) listed a w
  | [], listed, a, w, _, hcl, hB, h, hE => by
    simp only [okG, Option.some.injEq] at hB
    subst hB
    simp only [List.length_nil, Nat.zero_add]
    exact hE a w hcl h
  | (i, c) :: rest, listed, a, w, hsub, hcl, hB, h, hE => by
    simp only [okG] at hB
    by_cases hB1 : okS md ops π0 i c listed = true
    case neg => rw [if_neg hB1] at hB; cases hB
    rw [if_pos hB1] at hB
    unfold okS at hB1
    simp only [wpG] at h
    rw [List.length_cons, show rest.length + 1 + n = rest.length + n + 1 by omega]
    cases hi : ops[i]? with
    | none => simp [hi] at h
    | some o =>
      simp only [hi] at h
      by_cases hc : c ≤ 1
      · simp only [hc, if_true, Bool.and_eq_true, Bool.or_eq_true] at h hB1
        obtain ⟨⟨hr, hf⟩, hw⟩ := hB1
        have hr' : i ∈ Region.ready md ops listed := by simpa using hr
        have go : ∀ v, YieldsIf P ops (Among (c == 1) w) o v a → wpG P ops Q E rest (a.put o.dst v) w → wpAnyB P md ops Q (writes π0) (rest.length + n + 1) listed a w := fun v hy hk =>
          wpAnyB_first hi (Region.noSelect_spec hs) (fun c' a' w' => hQ c' a' _ _ w') (fun hl j hj => by
              rcases hw with hw | hw
              · simp [hl] at hw
              · obtain ⟨p, hp, rfl⟩ := writes_mem hj
                have := List.all_eq_true.1 hw p hp
                simpa [hj] using this) (rest.length + n) listed a w hcl (Region.free_spec hi hf) hr' hy
            (wpAnyB_of_G hs hQ π0 hun rest _ _ w (fun p hp => hsub p (List.mem_cons_of_mem _ hp)) (hcl.set hr') hB hk hE)
        by_cases hwt : Region.wanted o (yielded ops a.tmps) = true
        · simp only [hwt, if_true] at h
          obtain ⟨v, h1, h2⟩ := h
          exact go v (.inl ⟨hwt, h1⟩) h2
        · simp only [hwt] at h
          exact go undef (.inr ⟨by simpa using hwt, rfl⟩) h
      · simp only [if_neg hc] at h hB1
        have hr : Region.ready md ops listed = [i] := by simpa using hB1
        have hr' : i ∈ Region.ready md ops listed := by rw [hr]; simp
        refine ⟨fun h0 => (by rw [hr] at h0; cases h0), fun j hj => ?_⟩
        rw [hr] at hj
        obtain rfl : j = i := by simpa using hj
        have rcr : ∀ a' w', wpG P ops Q E rest a' w' → wpAnyB P md ops Q (writes π0) (rest.length + n) (listed.setIfInBounds j true) a' w' := fun a' w' hk =>
          wpAnyB_of_G hs hQ π0 hun rest _ a' w' (fun p hp => hsub p (List.mem_cons_of_mem _ hp)) (hcl.set hr') hB hk hE
        have hext : ∀ w', (c = 2 → Ext w w') → writes π0 j = false → Ext w w' := fun w' he hw => by
          have hm := hsub (j, c) (by simp)
          refine he ?_
          have := List.any_eq_false.1 hw (j, c) hm
          simpa [hc] using this
        unfold wpOp
        simp only [hi]
        split
        · rename_i hwt
          simp only [hwt, if_true] at h
          rcases h with h | h
          · exact .inl (Oper.wp_mono (fun a' w' h' => ⟨hext w' h'.1, rcr _ _ h'.2⟩) h)
          · exact .inr h
        · rename_i hwt
          simp only [hwt] at h
          exact ⟨fun _ => Ext.refl w, rcr _ _ h⟩

theorem hvT_op {i : Nat} {K : Act → World → Prop} {a : Act} {w : World} (h : hvT P ops Q i K a w) {L : Act → World → Prop} (hL : ∀ a' w', Ext w w' → K a' w' → L a' w') : wpOp P ops Q i L a w := by
  unfold hvT at h
  unfold wpOp
  cases hi : ops[i]? with
  | none => simp [hi] at h
  | some o =>
    simp only [hi] at h ⊢
    split
    · rename_i hwt
      simp only [hwt, if_true] at h
      rcases h with h | h
      · exact .inl (Oper.wp_mono (fun a' w' h' => hL _ _ h'.1 h'.2) h)
      · exact .inr h
    · rename_i hwt
      simp only [hwt] at h
      exact hL _ _ (Ext.refl w) h

theorem wpAnyB_of_T (hs : Region.noSelect ops = true) (hQ : ∀ c a d v w, Q (.panic c) (Act.put a d v) w → Q (.panic c) a w) (π0 : List (Nat × Nat)) (hun : ∀ p ∈ π0, ∀ q ∈ π0, p.1 = q.1 → p = q) :
    ∀ (t : Tree) (n : Nat) (listed : Array Bool) (a : Act) (w : World), (∀ p ∈ t.pairs, p ∈ π0) → Closed md ops listed → okT md ops π0 t n listed = true → wpT P ops Q t a w → wpAnyB P md ops Q (writes π0) n listed a w
  | .leaf π, n, listed, a, w, hsub, hcl, hB, h => by
    simp only [okT, Bool.and_eq_true, beq_iff_eq] at hB
    obtain ⟨rfl, hB⟩ := hB
    cases ho : okG md ops π0 π listed with
    | none => rw [ho] at hB; cases hB
    | some l' =>
      rw [ho] at hB
      have := wpAnyB_of_G (n := 0) hs hQ π0 hun π listed a w hsub hcl ho h (fun a w _ hE => ⟨by simpa using hB, hE⟩)
      simpa using this
  | .fork π i j l r, n, listed, a, w, hsub, hcl, hB, h => by
    simp only [okT] at hB
    cases ho : okG md ops π0 π listed with
    | none => rw [ho] at hB; cases hB
    | some l' =>
      rw [ho] at hB
      simp only [Bool.and_eq_true, beq_iff_eq, decide_eq_true_eq] at hB
      obtain ⟨⟨⟨hr, hn⟩, hl⟩, hr2⟩ := hB
      have := wpAnyB_of_G (n := n - π.length - 1 + 1) hs hQ π0 hun π listed a w (fun p hp => hsub p (by simp [Tree.pairs, hp])) hcl ho h (fun a w hcl' hE => by
        refine ⟨fun h0 => (by rw [hr] at h0; cases h0), fun k hk => ?_⟩
        have hk' := hk
        rw [hr] at hk
        rcases List.mem_cons.1 hk with rfl | hk
        · exact hvT_op hE.1 fun a' w' he hK => ⟨fun _ => he, wpAnyB_of_T hs hQ π0 hun l _ _ a' w' (fun p hp => hsub p (by simp [Tree.pairs, hp])) (hcl'.set hk') hl hK⟩
        · obtain rfl : k = j := by simpa using hk
          exact hvT_op hE.2 fun a' w' he hK => ⟨fun _ => he, wpAnyB_of_T hs hQ π0 hun r _ _ a' w' (fun p hp => hsub p (by simp [Tree.pairs, hp])) (hcl'.set hk') hr2 hK⟩)
      rwa [show π.length + (n - π.length - 1 + 1) = n by omega] at this

/-- The same, shut. -/
structure WF (P : Program) (ops : Array Oper) (Q : Exit → Act → World → Prop) (E : Act → World → Prop) (π : List (Nat × Nat)) (a : Act) (w : World) : Prop where
  out : wpG P ops Q E π a w
structure WT (P : Program) (ops : Array Oper) (Q : Exit → Act → World → Prop) (t : Tree) (a : Act) (w : World) : Prop where
  out : wpT P ops Q t a w

theorem wp_region_fork {id : Nat} {Q : Exit → Act → World → Prop} {a : Act} {w : World} {l : List Oper} (t : Tree) (hm : P.follows .mixedOrders = true)
    (hB : (Region.noSelect l.toArray && uniq t.pairs && okT .any l.toArray t.pairs t l.length (Array.replicate l.length false)) = true)
    (hQ : ∀ c a d v w, Q (.panic c) (Act.put a d v) w → Q (.panic c) a w)
    (h : WT P l.toArray Q t a w.drew) : (Code.region id l.toArray true).wp P Q a w := by
  simp only [Bool.and_eq_true] at hB
  obtain ⟨⟨hs, hu⟩, hok⟩ := hB
  have hun : ∀ p ∈ t.pairs, ∀ q ∈ t.pairs, p.1 = q.1 → p = q := fun p hp q hq he => by
    have := List.all_eq_true.1 (List.all_eq_true.1 hu p hp) q hq
    simpa [he] using this
  refine wp_region_any hm (wpAny_of_B (wr := writes t.pairs) _ _ _ _ ?_)
  have := wpAnyB_of_T (P := P) (md := .any) hs hQ t.pairs hun t l.length (Array.replicate l.length false) a w.drew (fun p hp => hp) (closed_start _) hok h.out
  simpa using this

theorem wT_leaf {π : List (Nat × Nat)} {a : Act} {w : World} (h : WF P ops Q (Q .normal) π a w) : WT P ops Q (.leaf π) a w := ⟨h.out⟩
/-- The one that comes up, shut. -/
structure HV (P : Program) (ops : Array Oper) (Q : Exit → Act → World → Prop) (i : Nat) (t : Tree) (a : Act) (w : World) : Prop where
  out : hvT P ops Q i (wpT P ops Q t) a w
theorem hv_of {i : Nat} {t : Tree} {o : Oper} {a : Act} {w : World} (ho' : ops.toList[i]? = some o)
    (h : ∀ K : Act → World → Prop, (∀ a' w', Ext w w' → WT P ops Q t a' w' → K a' w') → if Region.wanted o (yielded ops a.tmps) then o.wp P a w K Q else K (a.put o.dst undef) w) : HV P ops Q i t a w := by
  have ho : ops[i]? = some o := by rw [← ho']; simp
  refine ⟨?_⟩
  unfold hvT
  simp only [ho]
  have := h (fun a' w' => Ext w w' ∧ wpT P ops Q t a' w') (fun _ _ h1 h2 => ⟨h1, h2.out⟩)
  split
  · rename_i hw
    simp only [hw, if_true] at this
    exact .inl this
  · rename_i hw
    rw [if_neg hw] at this
    exact this.2
theorem wpG_mono {E' : Act → World → Prop} (hE : ∀ a w, E a w → E' a w) : ∀ (π : List (Nat × Nat)) (a : Act) (w : World), wpG P ops Q E π a w → wpG P ops Q E' π a w := by
  intro π
  induction π with
  | nil => exact fun a w h => hE a w h
  | cons p rest ih =>
    obtain ⟨i, c⟩ := p
    intro a w h
    simp only [wpG] at h ⊢
    cases ho : ops[i]? with
    | none => simp [ho] at h
    | some o =>
      simp only [ho] at h ⊢
      split at h
      · rename_i hc
        rw [if_pos hc]
        split at h
        · rename_i hw
          rw [if_pos hw]
          obtain ⟨v, h1, h2⟩ := h
          exact ⟨v, h1, ih _ _ h2⟩
        · rename_i hw
          rw [if_neg hw]
          exact ih _ _ h
      · rename_i hc
        rw [if_neg hc]
        split at h
        · rename_i hw
          rw [if_pos hw]
          rcases h with h | h
          · exact .inl (Oper.wp_mono (fun a' w' h' => ⟨h'.1, ih _ _ h'.2⟩) h)
          · exact .inr h
        · rename_i hw
          rw [if_neg hw]
          exact ih _ _ h
/-- A fork: the one comes up, or the other. -/
theorem wT_fork {π : List (Nat × Nat)} {i j : Nat} {l r : Tree} {a : Act} {w : World} (h : WF P ops Q (fun a w => HV P ops Q i l a w ∧ HV P ops Q j r a w) π a w) : WT P ops Q (.fork π i j l r) a w :=
  ⟨wpG_mono (fun _ _ h => ⟨h.1.out, h.2.out⟩) π a w h.out⟩

/-- A guard's Bool is parted. -/
theorem wpF_split {i c : Nat} {o : Oper} {rest : List (Nat × Nat)} {a : Act} {w : World} {j d : Nat} {g B : Bool} (_ : ops.toList[i]? = some o) (_ : o.guard = some (j, g)) (_ : (ops.toList[j]?).bind (·.dst) = some d)
    (_ : a.tmps.toList[d]? = some (.bool B)) (ht : B = true → WF P ops Q E ((i, c) :: rest) a w) (hf : B = false → WF P ops Q E ((i, c) :: rest) a w) : WF P ops Q E ((i, c) :: rest) a w := by
  cases B
  · exact hf rfl
  · exact ht rfl

theorem wpF_nil {a : Act} {w : World} (h : E a w) : WF P ops Q E [] a w := ⟨h⟩
/-- The guard says no. -/
theorem wpF_no {i c : Nat} {o : Oper} {rest : List (Nat × Nat)} {a : Act} {w : World} (ho' : ops.toList[i]? = some o) (hw : Region.wanted o (yielded ops a.tmps) = false) (h : WF P ops Q E rest (a.put o.dst undef) w) : WF P ops Q E ((i, c) :: rest) a w := by
  have ho : ops[i]? = some o := by rw [← ho']; simp
  refine ⟨?_⟩
  simp only [wpG, ho, hw]
  split <;> exact h.out
/-- A step that reads no memory. -/
theorem wpF_0 {i : Nat} {o : Oper} {rest : List (Nat × Nat)} {a : Act} {w : World} (ho' : ops.toList[i]? = some o) (hk : lightKind o.op = true) (hw : Region.wanted o (yielded ops a.tmps) = true)
    (h : ∀ K : Act → Prop, (∀ a, WF P ops Q E rest a w → K a) → o.quiet P a (fun _ => True) K) : WF P ops Q E ((i, 0) :: rest) a w := by
  have ho : ops[i]? = some o := by rw [← ho']; simp
  obtain ⟨v, h1, h2⟩ := h _ (fun _ h => h)
  refine ⟨?_⟩
  simp only [wpG, ho, Nat.zero_le, if_true, hw]
  exact ⟨v, fun x _ => lit_of_quiet hk (h1 x trivial), h2.out⟩
/-- A step that reads memory. -/
theorem wpF_1 {i : Nat} {o : Oper} {rest : List (Nat × Nat)} {a : Act} {w : World} (N : Nat) (hN : N ≤ w.heap.size) (ho' : ops.toList[i]? = some o) (hk : lightKind o.op = true) (hw : Region.wanted o (yielded ops a.tmps) = true)
    (h : ∀ K : Act → Prop, (∀ a, WF P ops Q E rest a w → K a) → o.quiet P a (fun x => ∃ y : ExtN N w, x = y.x) K) : WF P ops Q E ((i, 1) :: rest) a w := by
  have ho : ops[i]? = some o := by rw [← ho']; simp
  obtain ⟨v, h1, h2⟩ := h _ (fun _ h => h)
  refine ⟨?_⟩
  simp only [wpG, ho, Nat.le_refl, if_true, hw]
  exact ⟨v, fun x hx => lit_of_quiet hk (h1 x ⟨⟨x, (hx (by rfl)).mono hN⟩, rfl⟩), h2.out⟩
/-- A step that extends the world. -/
theorem wpF_2 {i : Nat} {o : Oper} {rest : List (Nat × Nat)} {a : Act} {w : World} (ho' : ops.toList[i]? = some o)
    (h : ∀ K : Act → World → Prop, (∀ a' w', Ext w w' → WF P ops Q E rest a' w' → K a' w') → if Region.wanted o (yielded ops a.tmps) then o.wp P a w K Q else K (a.put o.dst undef) w) :
    WF P ops Q E ((i, 2) :: rest) a w := by
  have ho : ops[i]? = some o := by rw [← ho']; simp
  have := h (fun a' w' => Ext w w' ∧ wpG P ops Q E rest a' w') (fun _ _ h1 h2 => ⟨h1, h2.out⟩)
  refine ⟨?_⟩
  simp only [wpG, ho]
  rw [if_neg (by decide)]
  split
  · rename_i hw
    simp only [hw, if_true] at this
    exact .inl (Oper.wp_mono (fun a' w' h' => ⟨fun _ => h'.1, h'.2⟩) this)
  · rename_i hw
    rw [if_neg hw] at this
    exact this.2
/-- A step that writes. -/
theorem wpF_3 {i : Nat} {o : Oper} {rest : List (Nat × Nat)} {a : Act} {w : World} (ho' : ops.toList[i]? = some o)
    (h : ∀ K : Act → World → Prop, (∀ a' w', WF P ops Q E rest a' w' → K a' w') → if Region.wanted o (yielded ops a.tmps) then o.wp P a w K Q else K (a.put o.dst undef) w) :
    WF P ops Q E ((i, 3) :: rest) a w := by
  have ho : ops[i]? = some o := by rw [← ho']; simp
  have := h (fun a' w' => wpG P ops Q E rest a' w') (fun _ _ h2 => h2.out)
  refine ⟨?_⟩
  simp only [wpG, ho]
  rw [if_neg (by decide)]
  split
  · rename_i hw
    simp only [hw, if_true] at this
    exact .inl (Oper.wp_mono (fun a' w' h' => ⟨fun h => absurd h (by decide), h'⟩) this)
  · rename_i hw
    rwa [if_neg hw] at this
end
end Go.Proofs.YtmiokpcolpcbaaaGreatDoor
