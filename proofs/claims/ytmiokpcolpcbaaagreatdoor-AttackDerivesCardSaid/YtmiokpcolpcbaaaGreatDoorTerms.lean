/- Well-formed texts of terms: how they read; that each rule makes one of such. No program in sight. -/
import Derived.Test.YtmiokpcolpcbaaaGreatDoorJoinA
namespace Go.Proofs.YtmiokpcolpcbaaaGreatDoor

/-- Brackets close, and no comma stands outside of them. -/
def Bal (s : Str) : Prop := ∀ (rest : Str) (d : Int) (cur : Str), 0 ≤ d → cutGo (s ++ rest) d cur = cutGo rest d (cur ++ s)
def Bal1 (s : Str) : Prop := ∀ (rest : Str) (d : Int) (cur : Str), 1 ≤ d → cutGo (s ++ rest) d cur = cutGo rest d (cur ++ s)

theorem bal_nil : Bal [] := fun rest d cur _ => by simp
theorem Bal.append {s t : Str} (hs : Bal s) (ht : Bal t) : Bal (s ++ t) := fun rest d cur h => by rw [List.append_assoc, hs _ _ _ h, ht _ _ _ h, List.append_assoc]
theorem Bal1.append {s t : Str} (hs : Bal1 s) (ht : Bal1 t) : Bal1 (s ++ t) := fun rest d cur h => by rw [List.append_assoc, hs _ _ _ h, ht _ _ _ h, List.append_assoc]
theorem Bal.one {s : Str} (hs : Bal s) : Bal1 s := fun rest d cur h => hs rest d cur (by omega)
theorem bal_byte {c : UInt8} (h1 : c ≠ 40) (h2 : c ≠ 41) (h3 : c ≠ 44) : Bal [c] := fun rest d cur _ => by
  show cutGo (c :: rest) d cur = _
  rw [cutGo, if_neg h1, if_neg h2, if_neg (fun h => h3 h.1)]
theorem bal1_comma : Bal1 [44] := fun rest d cur h => by
  show cutGo (44 :: rest) d cur = _
  rw [cutGo, if_neg (by decide), if_neg (by decide), if_neg (fun h' => by have := h'.2; omega)]
theorem bal_plain : ∀ {s : Str}, (∀ c ∈ s, c ≠ 40 ∧ c ≠ 41 ∧ c ≠ 44) → Bal s
  | [], _ => bal_nil
  | c :: s, h => by
    obtain ⟨h1, h2, h3⟩ := h c (by simp)
    have := (bal_byte h1 h2 h3).append (bal_plain (s := s) fun x hx => h x (List.mem_cons_of_mem _ hx))
    exact this
theorem bal_paren {s : Str} (hs : Bal1 s) : Bal ([40] ++ s ++ [41]) := fun rest d cur h => by
  have e : [40] ++ s ++ [41] ++ rest = 40 :: (s ++ (41 :: rest)) := by simp
  rw [e, cutGo, if_pos rfl, hs _ _ _ (by omega), cutGo, if_neg (by decide), if_pos rfl]
  congr 1
  · omega
  · simp
theorem bal_joinTail : ∀ {l : List Str}, (∀ t ∈ l, Bal t) → Bal1 (Lib.joinTail [44] l)
  | [], _ => by simpa [Lib.joinTail] using bal_nil.one
  | a :: l, h => by
    have e : Lib.joinTail [44] (a :: l) = [44] ++ a ++ Lib.joinTail [44] l := by simp [Lib.joinTail]
    rw [e]
    exact (bal1_comma.append (h a (by simp)).one).append (bal_joinTail fun t ht => h t (List.mem_cons_of_mem _ ht))
theorem bal_join {l : List Str} (h : ∀ t ∈ l, Bal t) : Bal1 (Lib.join l [44]) := by
  cases l with
  | nil => simpa [Lib.join] using bal_nil.one
  | cons a r => rw [Lib.join_cons]; exact (h a (by simp)).one.append (bal_joinTail fun t ht => h t (List.mem_cons_of_mem _ ht))
theorem cut_joinTail : ∀ (r : List Str) (cur : Str), (∀ t ∈ r, Bal t) → cutGo (Lib.joinTail [44] r) 0 cur = cur :: r
  | [], cur, _ => by simp [Lib.joinTail, cutGo]
  | a :: r, cur, h => by
    have e : Lib.joinTail [44] (a :: r) = 44 :: (a ++ Lib.joinTail [44] r) := by simp [Lib.joinTail]
    rw [e, cutGo, if_neg (by decide), if_neg (by decide), if_pos ⟨rfl, rfl⟩, h a (by simp) _ _ _ (Int.le_refl _), List.nil_append, cut_joinTail r a fun t ht => h t (List.mem_cons_of_mem _ ht)]
theorem cut_join {l : List Str} (hne : l ≠ []) (h : ∀ t ∈ l, Bal t) : cutS (Lib.join l [44]) = l := by
  cases l with
  | nil => exact absurd rfl hne
  | cons a r =>
    unfold cutS
    rw [Lib.join_cons, h a (by simp) _ _ _ (Int.le_refl _), List.nil_append, cut_joinTail r a fun t ht => h t (List.mem_cons_of_mem _ ht)]
theorem bal_told {head : Str} {l : List Str} (hh : Bal head) (h : ∀ t ∈ l, Bal t) : Bal (toldS head l) := by
  have e : toldS head l = head ++ ([40] ++ Lib.join l [44] ++ [41]) := by simp [toldS]
  rw [e]
  exact hh.append (bal_paren (bal_join h))

theorem rd_told {head : Str} {l : List Str} (hh : ∀ c ∈ head, c ≠ 40) (hne : l ≠ []) (h : ∀ t ∈ l, Bal t) : rd (toldS head l) = (head, l) := by
  have e : toldS head l = head ++ 40 :: (Lib.join l [44] ++ [41]) := by simp [toldS]
  have hk : headLen (toldS head l) = head.length := by
    refine headLen_of (by rw [e]; simp) (fun j hj => ?_) (by rw [e]; simp)
    rw [e, List.getElem?_append_left hj]
    intro hc
    exact hh _ (List.mem_of_getElem? hc) rfl
  unfold rd
  rw [if_neg ?_, hk]
  · have e2 : (toldS head l).drop (head.length + 1) = Lib.join l [44] ++ [41] := by
      rw [e, List.drop_append, List.drop_eq_nil_of_le (by omega)]
      simp
    have e3 : (toldS head l).take head.length = head := by rw [e]; simp
    rw [e2, e3, List.dropLast_concat, cut_join hne h]
  · rintro (h' | h')
    · rw [hk, e] at h'; simp at h'
    · apply h'
      have e4 : toldS head l = (head ++ 40 :: Lib.join l [44]) ++ [41] := by simp [toldS]
      rw [e4, List.getLast?_concat]

theorem bal_dec (n : Nat) : Bal (Lib.decDigits n) := bal_plain fun c hc => by
  have := dec_digit n c hc
  refine ⟨?_, ?_, ?_⟩ <;> (rintro rfl; simp at this)

/-- Has a head 32 bytes? -/
def flatH (h : Str) : Bool := h == sHash || h == sKey || h == sOwn || h == sXor

/-- A text of a term, of L objects. -/
inductive Term (L : Nat) : Str → Prop
  | piece (o i : Nat) (ho : o < L) (hi : i < 255) : Term L (toldS sPiece [Lib.decDigits o, Lib.decDigits i])
  | hidden (o : Nat) (ho : o < L) : Term L (toldS sHidden [Lib.decDigits o])
  | key (o : Nat) (ho : o < L) : Term L (toldS sKey [Lib.decDigits o])
  | inside (o : Nat) (ho : o < L) : Term L (toldS sInside [Lib.decDigits o])
  | hash (t : Str) (ht : Term L t) : Term L (toldS sHash [t])
  | own (n : Nat) (hn : n ≤ 255) : Term L (toldS sOwn [Lib.decDigits n])
  | hide (k t : Str) (hk : Term L k) (hf : flatB k = true) (ht : Term L t) : Term L (toldS sHide [k, t])
  | xor (ts : List Str) (h2 : 2 ≤ ts.length) (ht : ∀ t ∈ ts, Term L t) (hf : ∀ t ∈ ts, flatB t = true ∧ hd t ≠ sXor) : Term L (toldS sXor ts)

theorem bal_head {h : Str} (hh : h = sPiece ∨ h = sHidden ∨ h = sKey ∨ h = sInside ∨ h = sHash ∨ h = sOwn ∨ h = sHide ∨ h = sXor) : Bal h ∧ ∀ c ∈ h, c ≠ 40 := by
  have : ∀ c ∈ h, c ≠ 40 ∧ c ≠ 41 ∧ c ≠ 44 := by
    rcases hh with rfl | rfl | rfl | rfl | rfl | rfl | rfl | rfl <;> decide
  exact ⟨bal_plain this, fun c hc => (this c hc).1⟩

theorem Term.bal {L : Nat} {s : Str} (h : Term L s) : Bal s := by
  induction h with
  | piece o i => exact bal_told (bal_head (by simp)).1 (by simp [bal_dec])
  | hidden o => exact bal_told (bal_head (by simp)).1 (by simp [bal_dec])
  | key o => exact bal_told (bal_head (by simp)).1 (by simp [bal_dec])
  | inside o => exact bal_told (bal_head (by simp)).1 (by simp [bal_dec])
  | hash t ht ih => exact bal_told (bal_head (by simp)).1 (by simpa using ih)
  | own n => exact bal_told (bal_head (by simp)).1 (by simp [bal_dec])
  | hide k t _ _ _ ih1 ih2 => exact bal_told (bal_head (by simp)).1 (by simp [ih1, ih2])
  | xor ts _ _ _ ih => exact bal_told (bal_head (by simp)).1 ih
theorem Term.asc {L : Nat} {s : Str} (h : Term L s) : Asc s := by
  induction h with
  | piece o i => exact asc_told asc_piece (by simp [asc_dec])
  | hidden o => exact asc_told asc_hidden (by simp [asc_dec])
  | key o => exact asc_told asc_key (by simp [asc_dec])
  | inside o => exact asc_told asc_inside (by simp [asc_dec])
  | hash t ht ih => exact asc_told asc_hash (by simpa using ih)
  | own n => exact asc_told asc_own (by simp [asc_dec])
  | hide k t _ _ _ ih1 ih2 => exact asc_told asc_hide (by simp [ih1, ih2])
  | xor ts _ _ _ ih => exact asc_told asc_xor ih

theorem rd_piece (o i : Nat) : rd (toldS sPiece [Lib.decDigits o, Lib.decDigits i]) = (sPiece, [Lib.decDigits o, Lib.decDigits i]) := rd_told (bal_head (by simp)).2 (by simp) (by simp [bal_dec])
theorem rd_hidden (o : Nat) : rd (toldS sHidden [Lib.decDigits o]) = (sHidden, [Lib.decDigits o]) := rd_told (bal_head (by simp)).2 (by simp) (by simp [bal_dec])
theorem rd_key (o : Nat) : rd (toldS sKey [Lib.decDigits o]) = (sKey, [Lib.decDigits o]) := rd_told (bal_head (by simp)).2 (by simp) (by simp [bal_dec])
theorem rd_inside (o : Nat) : rd (toldS sInside [Lib.decDigits o]) = (sInside, [Lib.decDigits o]) := rd_told (bal_head (by simp)).2 (by simp) (by simp [bal_dec])
theorem rd_own (o : Nat) : rd (toldS sOwn [Lib.decDigits o]) = (sOwn, [Lib.decDigits o]) := rd_told (bal_head (by simp)).2 (by simp) (by simp [bal_dec])
theorem rd_hash {t : Str} (h : Bal t) : rd (toldS sHash [t]) = (sHash, [t]) := rd_told (bal_head (by simp)).2 (by simp) (by simpa using h)
theorem rd_hide {k t : Str} (hk : Bal k) (ht : Bal t) : rd (toldS sHide [k, t]) = (sHide, [k, t]) := rd_told (bal_head (by simp)).2 (by simp) (by simp [hk, ht])
theorem rd_xor {ts : List Str} (hne : ts ≠ []) (h : ∀ t ∈ ts, Bal t) : rd (toldS sXor ts) = (sXor, ts) := rd_told (bal_head (by simp)).2 hne h

theorem Good.of {L : Nat} {s h : Str} {l : List Str} (e : rd s = (h, l)) (ha : Asc s) (hl : s.length ≤ 4000) (h1 : h = sHide → 2 ≤ l.length) (h0 : 1 ≤ l.length)
    (h4 : h = sPiece → ∃ o i : Nat, o < L ∧ i < 255 ∧ l = [Lib.decDigits o, Lib.decDigits i]) : Good L s :=
  ⟨ha, hl, by unfold hd; rw [e]; exact h1, fun _ => by rw [e]; exact h0, fun _ => by rw [e]; exact h0, by unfold hd; rw [e]; exact h4⟩

theorem Term.good {L : Nat} {s : Str} (h : Term L s) (hl : s.length ≤ 4000) : Good L s := by
  have ha := h.asc
  cases h with
  | piece o i ho hi => exact .of (rd_piece o i) ha hl (fun h => absurd h (by decide)) (by simp) fun _ => ⟨o, i, ho, hi, rfl⟩
  | hidden o ho => exact .of (rd_hidden o) ha hl (fun h => absurd h (by decide)) (by simp) fun h => absurd h (by decide)
  | key o ho => exact .of (rd_key o) ha hl (fun h => absurd h (by decide)) (by simp) fun h => absurd h (by decide)
  | inside o ho => exact .of (rd_inside o) ha hl (fun h => absurd h (by decide)) (by simp) fun h => absurd h (by decide)
  | hash t ht => exact .of (rd_hash ht.bal) ha hl (fun h => absurd h (by decide)) (by simp) fun h => absurd h (by decide)
  | own n hn => exact .of (rd_own n) ha hl (fun h => absurd h (by decide)) (by simp) fun h => absurd h (by decide)
  | hide k t hk hf ht => exact .of (rd_hide hk.bal ht.bal) ha hl (fun _ => by simp) (by simp) fun h => absurd h (by decide)
  | xor ts h2 ht hf => exact .of (rd_xor (by rintro rfl; simp at h2) (fun t h => (ht t h).bal)) ha hl (fun h => absurd h (by decide)) (by omega) fun h => absurd h (by decide)

/-! What a term's head says. -/
theorem Term.of_hide {L : Nat} {s : Str} (h : Term L s) (hh : hd s = sHide) : ∃ k t, s = toldS sHide [k, t] ∧ Term L k ∧ flatB k = true ∧ Term L t ∧ (rd s).2 = [k, t] := by
  unfold hd at hh
  cases h with
  | hide k t hk hf ht => exact ⟨k, t, rfl, hk, hf, ht, by rw [rd_hide hk.bal ht.bal]⟩
  | piece o i ho hi => rw [rd_piece] at hh; dsimp only at hh; exact absurd hh (by decide)
  | hidden o ho => rw [rd_hidden] at hh; dsimp only at hh; exact absurd hh (by decide)
  | key o ho => rw [rd_key] at hh; dsimp only at hh; exact absurd hh (by decide)
  | inside o ho => rw [rd_inside] at hh; dsimp only at hh; exact absurd hh (by decide)
  | hash t ht => rw [rd_hash ht.bal] at hh; dsimp only at hh; exact absurd hh (by decide)
  | own n hn => rw [rd_own] at hh; dsimp only at hh; exact absurd hh (by decide)
  | xor ts h2 ht hf => rw [rd_xor (by rintro rfl; simp at h2) (fun t h => (ht t h).bal)] at hh; dsimp only at hh; exact absurd hh (by decide)
theorem Term.of_hidden {L : Nat} {s : Str} (h : Term L s) (hh : hd s = sHidden) : ∃ o, o < L ∧ s = toldS sHidden [Lib.decDigits o] ∧ (rd s).2 = [Lib.decDigits o] := by
  unfold hd at hh
  cases h with
  | hidden o ho => exact ⟨o, ho, rfl, by rw [rd_hidden]⟩
  | hide k t hk hf ht => rw [rd_hide hk.bal ht.bal] at hh; dsimp only at hh; exact absurd hh (by decide)
  | piece o i ho hi => rw [rd_piece] at hh; dsimp only at hh; exact absurd hh (by decide)
  | key o ho => rw [rd_key] at hh; dsimp only at hh; exact absurd hh (by decide)
  | inside o ho => rw [rd_inside] at hh; dsimp only at hh; exact absurd hh (by decide)
  | hash t ht => rw [rd_hash ht.bal] at hh; dsimp only at hh; exact absurd hh (by decide)
  | own n hn => rw [rd_own] at hh; dsimp only at hh; exact absurd hh (by decide)
  | xor ts h2 ht hf => rw [rd_xor (by rintro rfl; simp at h2) (fun t h => (ht t h).bal)] at hh; dsimp only at hh; exact absurd hh (by decide)
theorem Term.of_inside {L : Nat} {s : Str} (h : Term L s) (hh : hd s = sInside) : ∃ o, o < L ∧ s = toldS sInside [Lib.decDigits o] ∧ (rd s).2 = [Lib.decDigits o] := by
  unfold hd at hh
  cases h with
  | inside o ho => exact ⟨o, ho, rfl, by rw [rd_inside]⟩
  | hide k t hk hf ht => rw [rd_hide hk.bal ht.bal] at hh; dsimp only at hh; exact absurd hh (by decide)
  | piece o i ho hi => rw [rd_piece] at hh; dsimp only at hh; exact absurd hh (by decide)
  | key o ho => rw [rd_key] at hh; dsimp only at hh; exact absurd hh (by decide)
  | hidden o ho => rw [rd_hidden] at hh; dsimp only at hh; exact absurd hh (by decide)
  | hash t ht => rw [rd_hash ht.bal] at hh; dsimp only at hh; exact absurd hh (by decide)
  | own n hn => rw [rd_own] at hh; dsimp only at hh; exact absurd hh (by decide)
  | xor ts h2 ht hf => rw [rd_xor (by rintro rfl; simp at h2) (fun t h => (ht t h).bal)] at hh; dsimp only at hh; exact absurd hh (by decide)
theorem Term.of_xor {L : Nat} {s : Str} (h : Term L s) (hh : hd s = sXor) : ∃ ts, 2 ≤ ts.length ∧ s = toldS sXor ts ∧ (∀ t ∈ ts, Term L t) ∧ (∀ t ∈ ts, flatB t = true ∧ hd t ≠ sXor) ∧ (rd s).2 = ts := by
  unfold hd at hh
  cases h with
  | xor ts h2 ht hf => exact ⟨ts, h2, rfl, ht, hf, by rw [rd_xor (by rintro rfl; simp at h2) (fun t h => (ht t h).bal)]⟩
  | inside o ho => rw [rd_inside] at hh; dsimp only at hh; exact absurd hh (by decide)
  | hide k t hk hf ht => rw [rd_hide hk.bal ht.bal] at hh; dsimp only at hh; exact absurd hh (by decide)
  | piece o i ho hi => rw [rd_piece] at hh; dsimp only at hh; exact absurd hh (by decide)
  | key o ho => rw [rd_key] at hh; dsimp only at hh; exact absurd hh (by decide)
  | hidden o ho => rw [rd_hidden] at hh; dsimp only at hh; exact absurd hh (by decide)
  | hash t ht => rw [rd_hash ht.bal] at hh; dsimp only at hh; exact absurd hh (by decide)
  | own n hn => rw [rd_own] at hh; dsimp only at hh; exact absurd hh (by decide)

/-- What a flat term is the xor of. -/
theorem Term.parts {L : Nat} {s : Str} (h : Term L s) (hf : flatB s = true) : ∀ t ∈ partsS s, Term L t ∧ flatB t = true ∧ hd t ≠ sXor := by
  unfold partsS
  by_cases hx : hd s = sXor
  · rw [if_pos hx]
    obtain ⟨ts, h2, rfl, ht, hff, e⟩ := h.of_xor hx
    rw [e]
    exact fun t h => ⟨ht t h, hff t h⟩
  · rw [if_neg hx]
    intro t h'
    rw [List.mem_singleton] at h'
    subst h'
    exact ⟨h, hf, hx⟩
theorem Term.zero (L : Nat) : Term L (toldS sOwn [[48]]) := by
  have : Lib.decDigits 0 = [48] := by rw [dec_small (by decide)]; rfl
  rw [← this]
  exact .own 0 (by decide)
theorem Term.fin {L : Nat} {l : List Str} (h : ∀ t ∈ l, Term L t ∧ flatB t = true ∧ hd t ≠ sXor) : Term L (finS l) := by
  match l, h with
  | [], _ => exact Term.zero L
  | [a], h => exact (h a (by simp)).1
  | a :: b :: r, h => exact .xor _ (by simp) (fun t ht => (h t ht).1) (fun t ht => (h t ht).2)
theorem xorL_mem {s t u : Str} (h : u ∈ xorL s t) : u ∈ partsS s ∨ u ∈ partsS t := by
  unfold xorL onlyIn at h
  rcases List.mem_append.1 h with h | h
  · exact .inl (List.mem_filter.1 h).1
  · exact .inr (List.mem_filter.1 h).1
theorem Term.xorS {L : Nat} {s t : Str} (hs : Term L s) (ht : Term L t) (fs : flatB s = true) (ft : flatB t = true) : Term L (xorS s t) :=
  Term.fin fun u hu => by
    have : u ∈ xorL s t := by simpa [sortS] using hu
    rcases xorL_mem this with h | h
    · exact hs.parts fs u h
    · exact ht.parts ft u h
end Go.Proofs.YtmiokpcolpcbaaaGreatDoor
