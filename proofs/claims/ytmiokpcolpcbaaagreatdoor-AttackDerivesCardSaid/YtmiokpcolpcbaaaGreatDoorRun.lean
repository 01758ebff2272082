/- The run of a derivation, as a plain function; what is known are terms. No program in sight. -/
import Derived.Test.YtmiokpcolpcbaaaGreatDoorTerms
namespace Go.Proofs.YtmiokpcolpcbaaaGreatDoor

def stepO (l : List AObj) (known : List Str) (s : AStep) : Option Str :=
  if s.rule = 1 then hashO known s.args else if s.rule = 2 then xorO known s.args else if s.rule = 3 then joinO l known s.args s.n
  else if s.rule = 4 then moreO l known s.args s.n else if s.rule = 5 then showO known s.args else if s.rule = 6 then hideO known s.args
  else if s.rule = 7 then ownO s.args s.n else none
def pieceOK (l : List AObj) (p : Int × Int) : Bool := decide (0 ≤ p.1) && decide (p.1 < l.length) && decide (0 ≤ p.2) && decide (p.2 < nOf l p.1)
def pieceT (p : Int × Int) : Str := toldS sPiece [Lib.decDigits p.1.toNat, Lib.decDigits p.2.toNat]
/-- All that is known behind some steps, or the error's number. -/
def runS (l : List AObj) : List AStep → List Str → Except Int (List Str)
  | [], known => .ok known
  | s :: r, known => match stepO l known s with
    | none => .error 2
    | some x => if 4000 < x.length then .error 7 else runS l r (known ++ [x])
def deriveS (l : List AObj) (given : List (Int × Int)) (steps : List AStep) : Except Int (List Str) :=
  if rightL l = false then .error 14 else if given.all (pieceOK l) = false then .error 14 else if 200 < steps.length then .error 7 else runS l steps (given.map pieceT)

theorem nOf_le {l : List AObj} (hr : ∀ ob ∈ l, ob.n ≤ 255) (o : Int) : nOf l o ≤ 255 := by
  unfold nOf
  cases h : l[o.toNat]? with
  | none => simp
  | some ob => simpa using hr ob (List.mem_of_getElem? h)
theorem rightL_n {l : List AObj} (h : rightL l = true) : (∀ ob ∈ l, ob.n ≤ 255) ∧ l.length ≤ 20 := by
  unfold rightL at h
  simp only [Bool.and_eq_true, decide_eq_true_eq, List.all_eq_true] at h
  refine ⟨fun ob hob => ?_, h.2⟩
  have := h.1 ob hob
  simp only [rightO, Bool.and_eq_true, decide_eq_true_eq] at this
  exact this.1.2
theorem pieceT_term {l : List AObj} (hn : ∀ ob ∈ l, ob.n ≤ 255) {p : Int × Int} (h : pieceOK l p = true) : Term l.length (pieceT p) := by
  simp only [pieceOK, Bool.and_eq_true, decide_eq_true_eq] at h
  obtain ⟨⟨⟨h1, h2⟩, h3⟩, h4⟩ := h
  have := nOf_le hn p.1
  exact .piece _ _ (by omega) (by omega)
theorem pieceT_len {l : List AObj} (hn : ∀ ob ∈ l, ob.n ≤ 255) (hL : l.length ≤ 20) {p : Int × Int} (h : pieceOK l p = true) : (pieceT p).length ≤ 100 := by
  simp only [pieceOK, Bool.and_eq_true, decide_eq_true_eq] at h
  obtain ⟨⟨⟨h1, h2⟩, h3⟩, h4⟩ := h
  have h5 := nOf_le hn p.1
  have d1 := dec_len 3 p.1.toNat (by omega)
  have d2 := dec_len 3 p.2.toNat (by omega)
  have := told_len sPiece [Lib.decDigits p.1.toNat, Lib.decDigits p.2.toNat]
  simp only [sumLen, List.map_cons, List.map_nil, List.sum_cons, List.sum_nil] at this
  have e : sPiece.length = 5 := rfl
  unfold pieceT
  omega

theorem argsO_some {known : List Str} {args : List Int} {m : Nat} {l : List Str} (h : argsO known args m = some l) : l.length = m ∧ ∀ s ∈ l, s ∈ known := by
  unfold argsO at h
  rw [Option.filter_eq_some_iff] at h
  exact ⟨by simpa using h.2, pickS_mem h.1⟩
theorem getD_mem {l : List Str} {i : Nat} (h : i < l.length) : l.getD i [] ∈ l := by
  rw [List.getD_eq_getElem?_getD, List.getElem?_eq_getElem h]; simp
theorem flat_key (o : Nat) : flatB (toldS sKey [Lib.decDigits o]) = true := by unfold flatB hd; rw [rd_key]; rfl
theorem flat_hash {t : Str} (h : Bal t) : flatB (toldS sHash [t]) = true := by unfold flatB hd; rw [rd_hash h]; rfl

theorem joinT_term {L o : Nat} (ho : o < L) (n : Int) : Term L (joinT o n) := by
  unfold joinT
  split
  · exact .hidden o ho
  · exact Term.xorS (.key o ho) (.hash _ (.hidden o ho)) (flat_key o) (flat_hash (Term.hidden (L := L) o ho).bal)
theorem showT_term {L : Nat} {x y z : Str} (hy : Term L y) (h : showT x y = some z) : Term L z := by
  unfold showT at h
  split at h
  · rename_i h1
    obtain ⟨k, t, _, hk, _, ht, e⟩ := hy.of_hide h1.1
    rw [e] at h
    simp at h; subst h; exact ht
  · split at h
    · rename_i h1
      obtain ⟨o, ho, _, e⟩ := hy.of_hidden h1.1
      rw [e] at h
      simp at h; subst h; exact .inside o ho
    · cases h
theorem hideT_term {L : Nat} {x y : Str} (hx : Term L x) (hy : Term L y) (hf : flatB x = true) : Term L (hideT x y) := by
  unfold hideT
  split
  · rename_i h1
    obtain ⟨o, ho, _, e⟩ := hy.of_inside h1.1
    rw [e]
    exact .hidden o ho
  · exact .hide x y hx hf hy

theorem step_term {l : List AObj} (hn : ∀ ob ∈ l, ob.n ≤ 255) (hL : l.length ≤ 20) {known : List Str} (hk : ∀ s ∈ known, Term l.length s ∧ s.length ≤ 4000) {s : AStep} {x : Str} (h : stepO l known s = some x) : Term l.length x := by
  have hg : ∀ s ∈ known, Good l.length s := fun s hs => (hk s hs).1.good (hk s hs).2
  have two : ∀ {ts : List Str}, argsO known s.args 2 = some ts → Term l.length (ts.getD 0 []) ∧ Term l.length (ts.getD 1 []) := fun ht => by
    obtain ⟨h1, h2⟩ := argsO_some ht
    exact ⟨(hk _ (h2 _ (getD_mem (by omega)))).1, (hk _ (h2 _ (getD_mem (by omega)))).1⟩
  unfold stepO at h
  split at h
  · unfold hashO at h
    rw [Option.bind_eq_some_iff] at h
    obtain ⟨ts, ht, h⟩ := h
    obtain ⟨h1, h2⟩ := argsO_some ht
    simp at h; subst h
    exact .hash _ (hk _ (h2 _ (by rw [← List.getD_eq_getElem?_getD]; exact getD_mem (by omega)))).1
  split at h
  · unfold xorO at h
    rw [Option.bind_eq_some_iff] at h
    obtain ⟨ts, ht, h⟩ := h
    split at h
    · rename_i hf
      rw [Bool.and_eq_true] at hf
      cases h
      exact Term.xorS (two ht).1 (two ht).2 hf.1 hf.2
    · cases h
  split at h
  · unfold joinO at h
    split at h
    · cases h
    · rename_i hc
      cases h
      rcases objectO_lt (args := s.args) hL hg with h1 | ⟨o, h1, ho⟩
      · omega
      · rw [h1]; exact joinT_term (by simpa using ho) _
  split at h
  · unfold moreO at h
    split at h
    · cases h
    · rename_i hc
      cases h
      have := nOf_le hn (objectO l known s.args)
      rcases objectO_lt (args := s.args) hL hg with h1 | ⟨o, h1, ho⟩
      · omega
      · rw [h1] at hc this ⊢; exact .piece _ _ (by simpa using ho) (by omega)
  split at h
  · unfold showO at h
    rw [Option.bind_eq_some_iff] at h
    obtain ⟨ts, ht, h⟩ := h
    split at h
    · exact showT_term (two ht).2 h
    · cases h
  split at h
  · unfold hideO at h
    rw [Option.bind_eq_some_iff] at h
    obtain ⟨ts, ht, h⟩ := h
    split at h
    · rename_i hf
      cases h
      exact hideT_term (two ht).1 (two ht).2 hf
    · cases h
  split at h
  · unfold ownO at h
    split at h
    · cases h
      exact .own _ (by omega)
    · cases h
  · cases h
end Go.Proofs.YtmiokpcolpcbaaaGreatDoor
