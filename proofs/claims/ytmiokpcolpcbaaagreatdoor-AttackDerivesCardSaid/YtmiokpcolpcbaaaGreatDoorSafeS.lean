/- The plain law of AttackSafe: from fewer unlike pieces of an object than suffice nothing that is known mentions its key, its inside, its hidden part, or a piece that was not given. No program in sight. -/
import Derived.Test.YtmiokpcolpcbaaaGreatDoorRun
namespace Go.Proofs.YtmiokpcolpcbaaaGreatDoor

theorem distR_erase {p : Int × Int} {o : Int} (hp : p.1 = o) : ∀ {m : List (Int × Int)}, p ∈ m → distR m o = distR (m.filter (· != p)) o + 1
  | [], h => by cases h
  | a :: r, h => by
    by_cases ha : a = p
    · subst ha
      by_cases hr : a ∈ r
      · have ih := distR_erase hp (m := r) hr
        rw [List.filter_cons_of_neg (by simp)]
        simp only [distR, if_neg (fun h : a.1 = o ∧ a ∉ r => h.2 hr)]
        omega
      · have e : r.filter (· != a) = r := by
          rw [List.filter_eq_self]
          intro x hx
          simp only [bne_iff_ne]
          rintro rfl
          exact hr hx
        rw [List.filter_cons_of_neg (by simp), e]
        simp only [distR, if_pos (⟨hp, hr⟩ : a.1 = o ∧ a ∉ r)]
    · have hr : p ∈ r := by
        rcases List.mem_cons.1 h with h | h
        · exact absurd h.symm ha
        · exact h
      have ih := distR_erase hp (m := r) hr
      rw [List.filter_cons_of_pos (by simpa using ha)]
      have e : (a ∈ r.filter (· != p)) ↔ a ∈ r := by simp [ha]
      simp only [distR, e]
      omega
theorem distR_le_of {o : Int} : ∀ {l m : List (Int × Int)}, (∀ p ∈ l, p.1 = o → p ∈ m) → distR l o ≤ distR m o
  | [], m, _ => by simp [distR]
  | p :: r, m, h => by
    by_cases hp : p.1 = o ∧ p ∉ r
    · have h1 := h p (by simp) hp.1
      rw [distR_erase hp.1 h1]
      simp only [distR, if_pos hp]
      have := distR_le_of (o := o) (l := r) (m := m.filter (· != p)) fun q hq hq1 => by
        rw [List.mem_filter]
        refine ⟨h q (List.mem_cons_of_mem _ hq) hq1, ?_⟩
        simp only [bne_iff_ne]
        rintro rfl
        exact hp.2 hq
      omega
    · simp only [distR, if_neg hp]
      have := distR_le_of (o := o) (l := r) (m := m) fun q hq => h q (List.mem_cons_of_mem _ hq)
      omega
theorem distN_le_of {o : Int} {l m : List (Int × Int)} (h : ∀ p ∈ l, p.1 = o → p ∈ m) : distN l o ≤ distN m o :=
  distR_le_of fun p hp h1 => by simpa using h p (by simpa using hp) h1

/-- A text of a term that mentions nothing of an object, but pieces that are given. -/
inductive Clean (L o : Nat) (G : List Str) : Str → Prop
  | piece (p i : Nat) (hp : p < L) (hi : i < 255) (hg : p = o → toldS sPiece [Lib.decDigits p, Lib.decDigits i] ∈ G) : Clean L o G (toldS sPiece [Lib.decDigits p, Lib.decDigits i])
  | hidden (p : Nat) (hp : p < L) (hn : p ≠ o) : Clean L o G (toldS sHidden [Lib.decDigits p])
  | key (p : Nat) (hp : p < L) (hn : p ≠ o) : Clean L o G (toldS sKey [Lib.decDigits p])
  | inside (p : Nat) (hp : p < L) (hn : p ≠ o) : Clean L o G (toldS sInside [Lib.decDigits p])
  | hash (t : Str) (ht : Clean L o G t) : Clean L o G (toldS sHash [t])
  | own (n : Nat) (hn : n ≤ 255) : Clean L o G (toldS sOwn [Lib.decDigits n])
  | hide (k t : Str) (hk : Clean L o G k) (hf : flatB k = true) (ht : Clean L o G t) : Clean L o G (toldS sHide [k, t])
  | xor (ts : List Str) (h2 : 2 ≤ ts.length) (ht : ∀ t ∈ ts, Clean L o G t) (hf : ∀ t ∈ ts, flatB t = true ∧ hd t ≠ sXor) : Clean L o G (toldS sXor ts)

theorem Clean.term {L o : Nat} {G : List Str} {s : Str} (h : Clean L o G s) : Term L s := by
  induction h with
  | piece p i hp hi _ => exact .piece p i hp hi
  | hidden p hp _ => exact .hidden p hp
  | key p hp _ => exact .key p hp
  | inside p hp _ => exact .inside p hp
  | hash t _ ih => exact .hash t ih
  | own n hn => exact .own n hn
  | hide k t _ hf _ ih1 ih2 => exact .hide k t ih1 hf ih2
  | xor ts h2 _ hf ih => exact .xor ts h2 ih hf

/-- What a clean text's head and what stands behind it are. -/
def CleanAs (L o : Nat) (G : List Str) (s : Str) : Prop :=
  (∃ p i : Nat, s = toldS sPiece [Lib.decDigits p, Lib.decDigits i] ∧ rd s = (sPiece, [Lib.decDigits p, Lib.decDigits i]) ∧ p < L ∧ i < 255 ∧ (p = o → s ∈ G)) ∨
  (∃ p : Nat, rd s = (sHidden, [Lib.decDigits p]) ∧ p < L ∧ p ≠ o) ∨
  (∃ p : Nat, rd s = (sKey, [Lib.decDigits p]) ∧ p < L ∧ p ≠ o) ∨
  (∃ p : Nat, rd s = (sInside, [Lib.decDigits p]) ∧ p < L ∧ p ≠ o) ∨
  (∃ t, rd s = (sHash, [t]) ∧ Clean L o G t) ∨
  (∃ n : Nat, rd s = (sOwn, [Lib.decDigits n])) ∨
  (∃ k t, rd s = (sHide, [k, t]) ∧ Clean L o G k ∧ flatB k = true ∧ Clean L o G t) ∨
  (∃ ts, rd s = (sXor, ts) ∧ (∀ t ∈ ts, Clean L o G t) ∧ (∀ t ∈ ts, flatB t = true ∧ hd t ≠ sXor))
theorem Clean.as {L o : Nat} {G : List Str} {s : Str} (h : Clean L o G s) : CleanAs L o G s := by
  unfold CleanAs
  cases h with
  | piece p i hp hi hg => exact .inl ⟨p, i, rfl, rd_piece p i, hp, hi, hg⟩
  | hidden p hp hn => exact .inr (.inl ⟨p, rd_hidden p, hp, hn⟩)
  | key p hp hn => exact .inr (.inr (.inl ⟨p, rd_key p, hp, hn⟩))
  | inside p hp hn => exact .inr (.inr (.inr (.inl ⟨p, rd_inside p, hp, hn⟩)))
  | hash t ht => exact .inr (.inr (.inr (.inr (.inl ⟨t, rd_hash ht.term.bal, ht⟩))))
  | own n hn => exact .inr (.inr (.inr (.inr (.inr (.inl ⟨n, rd_own n⟩)))))
  | hide k t hk hf ht => exact .inr (.inr (.inr (.inr (.inr (.inr (.inl ⟨k, t, rd_hide hk.term.bal ht.term.bal, hk, hf, ht⟩))))))
  | xor ts h2 ht hf => exact .inr (.inr (.inr (.inr (.inr (.inr (.inr ⟨ts, rd_xor (by rintro rfl; simp at h2) (fun t h => (ht t h).term.bal), ht, hf⟩))))))

theorem Clean.of_piece {L o : Nat} {G : List Str} {s : Str} (h : Clean L o G s) (hh : hd s = sPiece) : ∃ p i : Nat, s = toldS sPiece [Lib.decDigits p, Lib.decDigits i] ∧ rd s = (sPiece, [Lib.decDigits p, Lib.decDigits i]) ∧ p < L ∧ i < 255 ∧ (p = o → s ∈ G) := by
  unfold hd at hh
  rcases h.as with h | ⟨_, e, _⟩ | ⟨_, e, _⟩ | ⟨_, e, _⟩ | ⟨_, e, _⟩ | ⟨_, e⟩ | ⟨_, _, e, _⟩ | ⟨_, e, _⟩
  · exact h
  all_goals (rw [e] at hh; dsimp only at hh; exact absurd hh (by decide))
theorem Clean.of_hidden {L o : Nat} {G : List Str} {s : Str} (h : Clean L o G s) (hh : hd s = sHidden) : ∃ p : Nat, rd s = (sHidden, [Lib.decDigits p]) ∧ p < L ∧ p ≠ o := by
  unfold hd at hh
  rcases h.as with ⟨_, _, _, e, _⟩ | h | ⟨_, e, _⟩ | ⟨_, e, _⟩ | ⟨_, e, _⟩ | ⟨_, e⟩ | ⟨_, _, e, _⟩ | ⟨_, e, _⟩
  case inr.inl => exact h
  all_goals (rw [e] at hh; dsimp only at hh; exact absurd hh (by decide))
theorem Clean.of_inside {L o : Nat} {G : List Str} {s : Str} (h : Clean L o G s) (hh : hd s = sInside) : ∃ p : Nat, rd s = (sInside, [Lib.decDigits p]) ∧ p < L ∧ p ≠ o := by
  unfold hd at hh
  rcases h.as with ⟨_, _, _, e, _⟩ | ⟨_, e, _⟩ | ⟨_, e, _⟩ | h | ⟨_, e, _⟩ | ⟨_, e⟩ | ⟨_, _, e, _⟩ | ⟨_, e, _⟩
  case inr.inr.inr.inl => exact h
  all_goals (rw [e] at hh; dsimp only at hh; exact absurd hh (by decide))
theorem Clean.of_key {L o : Nat} {G : List Str} {s : Str} (h : Clean L o G s) (hh : hd s = sKey) : ∃ p : Nat, rd s = (sKey, [Lib.decDigits p]) ∧ p < L ∧ p ≠ o := by
  unfold hd at hh
  rcases h.as with ⟨_, _, _, e, _⟩ | ⟨_, e, _⟩ | h | ⟨_, e, _⟩ | ⟨_, e, _⟩ | ⟨_, e⟩ | ⟨_, _, e, _⟩ | ⟨_, e, _⟩
  case inr.inr.inl => exact h
  all_goals (rw [e] at hh; dsimp only at hh; exact absurd hh (by decide))
theorem Clean.of_hide {L o : Nat} {G : List Str} {s : Str} (h : Clean L o G s) (hh : hd s = sHide) : ∃ k t, rd s = (sHide, [k, t]) ∧ Clean L o G k ∧ flatB k = true ∧ Clean L o G t := by
  unfold hd at hh
  rcases h.as with ⟨_, _, _, e, _⟩ | ⟨_, e, _⟩ | ⟨_, e, _⟩ | ⟨_, e, _⟩ | ⟨_, e, _⟩ | ⟨_, e⟩ | h | ⟨_, e, _⟩
  case inr.inr.inr.inr.inr.inr.inl => exact h
  all_goals (rw [e] at hh; dsimp only at hh; exact absurd hh (by decide))
theorem Clean.parts {L o : Nat} {G : List Str} {s : Str} (h : Clean L o G s) (hf : flatB s = true) : ∀ t ∈ partsS s, Clean L o G t ∧ flatB t = true ∧ hd t ≠ sXor := by
  unfold partsS
  by_cases hx : hd s = sXor
  · rw [if_pos hx]
    have hx' := hx
    unfold hd at hx'
    rcases h.as with ⟨_, _, _, e, _⟩ | ⟨_, e, _⟩ | ⟨_, e, _⟩ | ⟨_, e, _⟩ | ⟨_, e, _⟩ | ⟨_, e⟩ | ⟨_, _, e, _⟩ | ⟨ts, e, h1, h2⟩
    case inr.inr.inr.inr.inr.inr.inr => rw [e]; exact fun t h => ⟨h1 t h, h2 t h⟩
    all_goals (rw [e] at hx'; dsimp only at hx'; exact absurd hx' (by decide))
  · rw [if_neg hx]
    intro t h'
    rw [List.mem_singleton] at h'
    subst h'
    exact ⟨h, hf, hx⟩
theorem Clean.zero (L o : Nat) (G : List Str) : Clean L o G (toldS sOwn [[48]]) := by
  have : Lib.decDigits 0 = [48] := by rw [dec_small (by decide)]; rfl
  rw [← this]
  exact .own 0 (by decide)
theorem Clean.fin {L o : Nat} {G : List Str} {l : List Str} (h : ∀ t ∈ l, Clean L o G t ∧ flatB t = true ∧ hd t ≠ sXor) : Clean L o G (finS l) := by
  match l, h with
  | [], _ => exact Clean.zero L o G
  | [a], h => exact (h a (by simp)).1
  | a :: b :: r, h => exact .xor _ (by simp) (fun t ht => (h t ht).1) (fun t ht => (h t ht).2)
theorem Clean.xorS {L o : Nat} {G : List Str} {s t : Str} (hs : Clean L o G s) (ht : Clean L o G t) (fs : flatB s = true) (ft : flatB t = true) : Clean L o G (xorS s t) :=
  Clean.fin fun u hu => by
    have : u ∈ xorL s t := by simpa [sortS] using hu
    rcases xorL_mem this with h | h
    · exact hs.parts fs u h
    · exact ht.parts ft u h

theorem told_dec_inj {h : Str} (hh : ∀ c ∈ h, c ≠ 40) {a b c d : Nat} (e : toldS h [Lib.decDigits a, Lib.decDigits b] = toldS h [Lib.decDigits c, Lib.decDigits d]) : a = c ∧ b = d := by
  have h1 := rd_told (l := [Lib.decDigits a, Lib.decDigits b]) hh (by simp) (by simp [bal_dec])
  have h2 := rd_told (l := [Lib.decDigits c, Lib.decDigits d]) hh (by simp) (by simp [bal_dec])
  rw [e, h2] at h1
  simp only [Prod.mk.injEq, List.cons.injEq, true_and, and_true] at h1
  exact ⟨(dec_inj h1.1).symm, (dec_inj h1.2).symm⟩

theorem enoughS_of {l : List AObj} {ts : List Str} {o : Int} (h : enoughS l ts = o) (ho : 0 ≤ o) : (∀ s ∈ ts, hd s = sPiece ∧ (pieceS s).1 = o) ∧ ¬ ((distN (ts.map pieceS) o : Int) < kOf l o) := by
  unfold enoughS at h
  split at h
  · omega
  split at h
  · rename_i hall
    split at h
    · omega
    · rename_i hany
      split at h
      · omega
      · rename_i hk
        rw [h] at hany hk
        refine ⟨fun s hs => ⟨?_, ?_⟩, hk⟩
        · have := List.all_eq_true.1 hall s hs; simpa using this
        · have : (ts.map pieceS).any (fun p => p.1 != o) = false := by simpa using hany
          rw [List.any_eq_false] at this
          have := this (pieceS s) (List.mem_map_of_mem hs)
          simpa using this
  · omega

/-- No step's pieces are enough of an object of which too few are given. -/
theorem object_ne {l : List AObj} (hL : l.length ≤ 20) {o : Nat} {given : List (Int × Int)} (hg : given.all (pieceOK l) = true) (hd' : (distN given o : Int) < kOf l o) {known : List Str}
    (hk : ∀ s ∈ known, Clean l.length o (given.map pieceT) s) (args : List Int) : objectO l known args ≠ o := by
  intro he
  unfold objectO at he
  cases hp : pickS known args with
  | none => rw [hp] at he; dsimp only at he; omega
  | some ts =>
    rw [hp] at he
    dsimp only at he
    obtain ⟨h1, h2⟩ := enoughS_of he (by omega)
    have : distN (ts.map pieceS) o ≤ distN given o := distN_le_of fun p hp' hp1 => by
      obtain ⟨s, hs, rfl⟩ := List.mem_map.1 hp'
      obtain ⟨h3, h4⟩ := h1 s hs
      obtain ⟨a, i, e1, e2, ha, hi, hG⟩ := (hk s (pickS_mem hp s hs)).of_piece h3
      have ep : pieceS s = ((a : Int), (i : Int)) := by
        unfold pieceS
        rw [e2]
        simp only [List.getD_cons_zero, List.getD_cons_succ, numS_dec (show a < 20 by omega), numS_dec hi]
      rw [ep] at h4 ⊢
      simp only at h4
      obtain ⟨q, hq, e3⟩ := List.mem_map.1 (hG (by omega))
      have hq2 := List.all_eq_true.1 hg q hq
      simp only [pieceOK, Bool.and_eq_true, decide_eq_true_eq] at hq2
      obtain ⟨⟨⟨g1, g2⟩, g3⟩, g4⟩ := hq2
      unfold pieceT at e3
      rw [e1] at e3
      obtain ⟨e4, e5⟩ := told_dec_inj (bal_head (by simp)).2 e3
      have : q = ((a : Int), (i : Int)) := by
        obtain ⟨q1, q2⟩ := q
        simp only at e4 e5 g1 g3 ⊢
        rw [Prod.mk.injEq]
        omega
      rw [← this]
      exact hq
    omega

theorem pieceT_clean {l : List AObj} (hn : ∀ ob ∈ l, ob.n ≤ 255) (o : Nat) {given : List (Int × Int)} (hg : given.all (pieceOK l) = true) : ∀ s ∈ given.map pieceT, Clean l.length o (given.map pieceT) s := by
  intro s hs
  obtain ⟨p, hp, rfl⟩ := List.mem_map.1 hs
  have h := List.all_eq_true.1 hg p hp
  simp only [pieceOK, Bool.and_eq_true, decide_eq_true_eq] at h
  obtain ⟨⟨⟨h1, h2⟩, h3⟩, h4⟩ := h
  have := nOf_le hn p.1
  exact .piece _ _ (by omega) (by omega) fun _ => hs

theorem step_clean {l : List AObj} (hn : ∀ ob ∈ l, ob.n ≤ 255) (hL : l.length ≤ 20) {o : Nat} {given : List (Int × Int)} (hg : given.all (pieceOK l) = true) (hd' : (distN given o : Int) < kOf l o) {known : List Str}
    (hk : ∀ s ∈ known, Clean l.length o (given.map pieceT) s ∧ s.length ≤ 4000) {s : AStep} {x : Str} (h : stepO l known s = some x) : Clean l.length o (given.map pieceT) x := by
  have hgd : ∀ s ∈ known, Good l.length s := fun s hs => (hk s hs).1.term.good (hk s hs).2
  have hne := object_ne hL hg hd' (fun s hs => (hk s hs).1) s.args
  have two : ∀ {ts : List Str}, argsO known s.args 2 = some ts → Clean l.length o (given.map pieceT) (ts.getD 0 []) ∧ Clean l.length o (given.map pieceT) (ts.getD 1 []) := fun ht => by
    obtain ⟨h1, h2⟩ := argsO_some ht
    exact ⟨(hk _ (h2 _ (getD_mem (by omega)))).1, (hk _ (h2 _ (getD_mem (by omega)))).1⟩
  unfold stepO at h
  split at h
  · unfold hashO at h
    rw [Option.bind_eq_some_iff] at h
    obtain ⟨ts, ht, h⟩ := h
    obtain ⟨h1, h2⟩ := argsO_some ht
    simp at h; subst h
    exact .hash _ (hk _ (h2 _ (by rw [← List.getD_eq_getElem?_getD]; exact getD_mem (by omega)))).1
  split at h
  · unfold xorO at h
    rw [Option.bind_eq_some_iff] at h
    obtain ⟨ts, ht, h⟩ := h
    split at h
    · rename_i hf
      rw [Bool.and_eq_true] at hf
      cases h
      exact Clean.xorS (two ht).1 (two ht).2 hf.1 hf.2
    · cases h
  split at h
  · unfold joinO at h
    split at h
    · cases h
    · rename_i hc
      cases h
      rcases objectO_lt (args := s.args) hL hgd with h1 | ⟨p, h1, hp⟩
      · omega
      · rw [h1] at hne ⊢
        have hpo : p ≠ o := by omega
        unfold joinT
        split
        · exact .hidden _ (by simpa using hp) (by simpa using hpo)
        · exact Clean.xorS (.key _ (by simpa using hp) (by simpa using hpo)) (.hash _ (.hidden _ (by simpa using hp) (by simpa using hpo))) (flat_key _) (flat_hash (Term.hidden (L := l.length) p hp).bal)
  split at h
  · unfold moreO at h
    split at h
    · cases h
    · rename_i hc
      cases h
      have := nOf_le hn (objectO l known s.args)
      rcases objectO_lt (args := s.args) hL hgd with h1 | ⟨p, h1, hp⟩
      · omega
      · rw [h1] at hne hc this ⊢
        exact .piece _ _ (by simpa using hp) (by omega) fun e => absurd e (by simp; omega)
  split at h
  · unfold showO at h
    rw [Option.bind_eq_some_iff] at h
    obtain ⟨ts, ht, h⟩ := h
    split at h
    · unfold showT at h
      split at h
      · rename_i h1
        obtain ⟨k, t, e, _, _, ht'⟩ := (two ht).2.of_hide h1.1
        rw [e] at h
        simp at h; subst h; exact ht'
      · split at h
        · rename_i h1
          obtain ⟨p, e, hp, hpo⟩ := (two ht).2.of_hidden h1.1
          rw [e] at h
          simp at h; subst h; exact .inside p hp hpo
        · cases h
    · cases h
  split at h
  · unfold hideO at h
    rw [Option.bind_eq_some_iff] at h
    obtain ⟨ts, ht, h⟩ := h
    split at h
    · rename_i hf
      cases h
      unfold hideT
      split
      · rename_i h1
        obtain ⟨p, e, hp, hpo⟩ := (two ht).2.of_inside h1.1
        rw [e]
        exact .hidden p hp hpo
      · exact .hide _ _ (two ht).1 hf (two ht).2
    · cases h
  split at h
  · unfold ownO at h
    split at h
    · cases h
      exact .own _ (by omega)
    · cases h
  · cases h

theorem run_clean {l : List AObj} (hn : ∀ ob ∈ l, ob.n ≤ 255) (hL : l.length ≤ 20) {o : Nat} {given : List (Int × Int)} (hg : given.all (pieceOK l) = true) (hd' : (distN given o : Int) < kOf l o) :
    ∀ {steps : List AStep} {known out : List Str}, (∀ s ∈ known, Clean l.length o (given.map pieceT) s ∧ s.length ≤ 4000) → runS l steps known = .ok out → ∀ s ∈ out, Clean l.length o (given.map pieceT) s
  | [], known, out, hk, h => by
    simp only [runS] at h
    cases h
    exact fun s hs => (hk s hs).1
  | st :: r, known, out, hk, h => by
    simp only [runS] at h
    cases hx : stepO l known st with
    | none => rw [hx] at h; cases h
    | some x =>
      rw [hx] at h
      dsimp only at h
      split at h
      · cases h
      · refine run_clean hn hL hg hd' (fun s hs => ?_) h
        rcases List.mem_append.1 hs with hs | hs
        · exact hk s hs
        · rw [List.mem_singleton] at hs
          subst hs
          exact ⟨step_clean hn hL hg hd' hk hx, by omega⟩
/-- What was known ahead stands first. -/
theorem run_prefix {l : List AObj} : ∀ {steps : List AStep} {known out : List Str}, runS l steps known = .ok out → ∃ m, out = known ++ m ∧ m.length = steps.length
  | [], known, out, h => by simp only [runS] at h; cases h; exact ⟨[], by simp, rfl⟩
  | st :: r, known, out, h => by
    simp only [runS] at h
    cases hx : stepO l known st with
    | none => rw [hx] at h; cases h
    | some x =>
      rw [hx] at h
      dsimp only at h
      split at h
      · cases h
      · obtain ⟨m, h1, h2⟩ := run_prefix h
        exact ⟨x :: m, by rw [h1]; simp, by simp [h2]⟩

theorem derive_ok {l : List AObj} {given : List (Int × Int)} {steps : List AStep} {known : List Str} (h : deriveS l given steps = .ok known) :
    rightL l = true ∧ given.all (pieceOK l) = true ∧ steps.length ≤ 200 ∧ runS l steps (given.map pieceT) = .ok known := by
  unfold deriveS at h
  split at h
  · cases h
  split at h
  · cases h
  split at h
  · cases h
  · rename_i h1 h2 h3
    exact ⟨by simpa using h1, by simpa using h2, by omega, h⟩

/-- The plain law. -/
theorem derive_clean {l : List AObj} {given : List (Int × Int)} {steps : List AStep} {known : List Str} (h : deriveS l given steps = .ok known) {o : Nat} (hd' : (distN given o : Int) < kOf l o) :
    ∀ s ∈ known, Clean l.length o (given.map pieceT) s := by
  obtain ⟨h1, h2, _, h4⟩ := derive_ok h
  obtain ⟨hn, hL⟩ := rightL_n h1
  refine run_clean hn hL h2 hd' (fun s hs => ⟨pieceT_clean hn o h2 s hs, ?_⟩) h4
  obtain ⟨p, hp, rfl⟩ := List.mem_map.1 hs
  have := pieceT_len hn hL (List.all_eq_true.1 h2 p hp)
  omega
theorem derive_take {l : List AObj} {given : List (Int × Int)} {steps : List AStep} {known : List Str} (h : deriveS l given steps = .ok known) : known.take given.length = given.map pieceT ∧ known.length = given.length + steps.length := by
  obtain ⟨_, _, _, h4⟩ := derive_ok h
  obtain ⟨m, rfl, hm⟩ := run_prefix h4
  refine ⟨?_, by simp [hm]⟩
  rw [List.take_append_of_le_length (by simp), List.take_of_length_le (by simp)]
theorem Clean.not_key {L o : Nat} {G : List Str} {s : Str} (h : Clean L o G s) : s ≠ toldS sKey [Lib.decDigits o] := by
  rintro rfl
  obtain ⟨p, e, _, hp⟩ := h.of_key (by unfold hd; rw [rd_key])
  rw [rd_key] at e
  simp only [Prod.mk.injEq, List.cons.injEq, true_and, and_true] at e
  exact hp (dec_inj e).symm
theorem Clean.not_inside {L o : Nat} {G : List Str} {s : Str} (h : Clean L o G s) : s ≠ toldS sInside [Lib.decDigits o] := by
  rintro rfl
  obtain ⟨p, e, _, hp⟩ := h.of_inside (by unfold hd; rw [rd_inside])
  rw [rd_inside] at e
  simp only [Prod.mk.injEq, List.cons.injEq, true_and, and_true] at e
  exact hp (dec_inj e).symm
theorem Clean.not_hidden {L o : Nat} {G : List Str} {s : Str} (h : Clean L o G s) : s ≠ toldS sHidden [Lib.decDigits o] := by
  rintro rfl
  obtain ⟨p, e, _, hp⟩ := h.of_hidden (by unfold hd; rw [rd_hidden])
  rw [rd_hidden] at e
  simp only [Prod.mk.injEq, List.cons.injEq, true_and, and_true] at e
  exact hp (dec_inj e).symm
theorem Clean.given {L o : Nat} {G : List Str} {s : Str} (h : Clean L o G s) (hh : hd s = sPiece) (h0 : (rd s).2[0]? = some (Lib.decDigits o)) : s ∈ G := by
  obtain ⟨p, i, _, e, _, _, hG⟩ := h.of_piece hh
  rw [e] at h0
  simp only [List.getElem?_cons_zero, Option.some.injEq] at h0
  exact hG (dec_inj h0)
end Go.Proofs.YtmiokpcolpcbaaaGreatDoor
