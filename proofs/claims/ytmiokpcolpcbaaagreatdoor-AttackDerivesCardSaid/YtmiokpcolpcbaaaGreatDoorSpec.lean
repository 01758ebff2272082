/- What the rules of attack come to, as plain functions. -/
import Derived.Test.YtmiokpcolpcbaaaGreatDoorArgsA
import Derived.Test.YtmiokpcolpcbaaaGreatDoorXorA
import Derived.Test.YtmiokpcolpcbaaaGreatDoorDist
namespace Go.Proofs.YtmiokpcolpcbaaaGreatDoor
open Go.RowKit

def argsO (known : List Str) (args : List Int) (m : Nat) : Option (List Str) := (pickS known args).filter (fun l => l.length == m)
theorem ArgsPost.opt {known : List Str} {args : List Int} {m : Nat} {l : List Str} {b : Bool} (h : ArgsPost known args m l b) : argsO known args m = (if b then some l else none) ∧ (b = true → l.length = m ∧ pickS known args = some l) := by
  unfold ArgsPost at h
  unfold argsO
  cases hp : pickS known args with
  | none => rw [hp] at h; obtain ⟨rfl, rfl⟩ := h; simp
  | some ls =>
    rw [hp] at h
    obtain ⟨rfl, rfl⟩ := h
    rw [decide_eq_false (by omega), Bool.false_or]
    by_cases e : l.length = m
    · simp [e, Option.filter]
    · simp [e, Option.filter]; omega
theorem pickS_mem {known : List Str} : ∀ {l : List Int} {ls : List Str}, pickS known l = some ls → ∀ s ∈ ls, s ∈ known
  | [], ls, h, s, hs => by simp [pickS] at h; subst h; cases hs
  | a :: l, ls, h, s, hs => by
    simp only [pickS] at h
    split at h
    · cases h
    · cases hk : known[a.toNat]? with
      | none => simp [hk] at h
      | some t =>
        simp only [hk] at h
        rw [Option.map_eq_some_iff] at h
        obtain ⟨r, h1, rfl⟩ := h
        rcases List.mem_cons.1 hs with rfl | hs
        · exact List.mem_of_getElem? hk
        · exact pickS_mem h1 s hs

/-- A text that the walk may meet. -/
structure Good (L : Nat) (s : Str) : Prop where
  asc : Asc s
  len : s.length ≤ 4000
  hide : hd s = sHide → 2 ≤ (rd s).2.length
  hidden : hd s = sHidden → 1 ≤ (rd s).2.length
  inside : hd s = sInside → 1 ≤ (rd s).2.length
  piece : hd s = sPiece → ∃ o i : Nat, o < L ∧ i < 255 ∧ (rd s).2 = [Lib.decDigits o, Lib.decDigits i]
theorem Good.mono {L M : Nat} {s : Str} (h : Good L s) (hl : L ≤ M) : Good M s :=
  ⟨h.asc, h.len, h.hide, h.hidden, h.inside, fun hp => let ⟨o, i, h1, h2, h3⟩ := h.piece hp; ⟨o, i, Nat.lt_of_lt_of_le h1 hl, h2, h3⟩⟩

/-! How long what is cut is. -/
def sumLen (l : List Str) : Nat := (l.map fun s => s.length + 1).sum
theorem sumLen_cutGo : ∀ (s : Str) (d : Int) (cur : Str), sumLen (cutGo s d cur) = s.length + cur.length + 1
  | [], d, cur => by simp [cutGo, sumLen]
  | c :: r, d, cur => by
    unfold cutGo
    split
    · rw [sumLen_cutGo r]; simp; omega
    · split
      · rw [sumLen_cutGo r]; simp; omega
      · split
        · have := sumLen_cutGo r d []
          simp only [sumLen, List.map_cons, List.sum_cons, List.length_cons] at this ⊢
          rw [this]; simp; omega
        · rw [sumLen_cutGo r]; simp; omega
theorem sumLen_rd (s : Str) : sumLen (rd s).2 ≤ s.length + 1 := by
  unfold rd
  split
  · simp [sumLen]
  · simp only [cutS]
    rw [sumLen_cutGo]
    simp; omega
theorem sumLen_parts (s : Str) : sumLen (partsS s) ≤ s.length + 1 := by
  unfold partsS
  split
  · exact sumLen_rd s
  · simp [sumLen]
theorem length_le_sumLen (l : List Str) : l.length ≤ sumLen l := by
  induction l with
  | nil => simp
  | cons a l ih => simp only [sumLen, List.map_cons, List.sum_cons, List.length_cons] at ih ⊢; omega
theorem sumLen_append (l m : List Str) : sumLen (l ++ m) = sumLen l + sumLen m := by simp [sumLen]
theorem sumLen_filter (l : List Str) (p : Str → Bool) : sumLen (l.filter p) ≤ sumLen l := by
  induction l with
  | nil => simp
  | cons a l ih =>
    rw [List.filter_cons]
    split <;> simp only [sumLen, List.map_cons, List.sum_cons] at ih ⊢ <;> omega
theorem sumLen_perm {l m : List Str} (h : l.Perm m) : sumLen l = sumLen m := (h.map _).sum_nat
theorem join_le (l : List Str) : (Lib.join l [44]).length ≤ sumLen l := by
  have ht : ∀ l : List Str, (Lib.joinTail [44] l).length = sumLen l := by
    intro l
    induction l with
    | nil => rfl
    | cons a l ih =>
      have h2 : (Lib.joinTail [44] (a :: l)).length = (Lib.joinTail [44] l).length + a.length + 1 := by simp [Lib.joinTail]; omega
      rw [h2, ih]; simp [sumLen]; omega
  cases l with
  | nil => simp [Lib.join]
  | cons a r =>
    rw [Lib.join_cons, List.length_append, ht]
    simp [sumLen]
theorem xorL_sum (s t : Str) : sumLen (xorL s t) ≤ s.length + t.length + 2 := by
  unfold xorL
  rw [sumLen_append]
  have h1 := sumLen_filter (partsS s) (fun x => !hasB (partsS t) x)
  have h2 := sumLen_filter (partsS t) (fun x => !hasB (partsS s) x)
  have h3 := sumLen_parts s
  have h4 := sumLen_parts t
  unfold onlyIn
  omega
theorem xor_join_le (s t : Str) : (Lib.join (sortS (xorL s t)) [44]).length ≤ s.length + t.length + 2 := by
  have h1 := join_le (sortS (xorL s t))
  have h2 : sumLen (sortS (xorL s t)) = sumLen (xorL s t) := sumLen_perm (List.mergeSort_perm _ _)
  have h3 := xorL_sum s t
  omega

theorem told_one (head t : Str) (w : World) (m : Nat) (hc : w.cell? ⟨m, 0, none⟩ = some (st t)) (hh : head.length ≤ 1000000) (ht : t.length ≤ 100000) :
    Calls Tryz.prog 27 #[st head, .slice (some ⟨m, 0, none⟩) 1 1] w fun e w' => e = .returned (st (toldS head [t])) ∧ Ext w w' := by
  have hs : Strs w (.slice (some ⟨m, 0, none⟩) 1 1) [t] := ⟨rfl, _, _, rfl, Nat.le_refl _, fun i x hx => ⟨m, 0, rfl, World.block_lt_of_cell? w _ hc, by
    cases i with
    | zero => simp at hx; subst hx; exact hc
    | succ i => simp at hx⟩⟩
  exact told_any head _ [t] _ hs hh (by simp) (by have := join_le [t]; simp [sumLen] at this; omega)
theorem told_two (head t u : Str) (w : World) (m : Nat) (hc : w.cell? ⟨m, 0, none⟩ = some (st t)) (hc2 : w.cell? ⟨m, 1, none⟩ = some (st u)) (hh : head.length ≤ 1000000) (ht : t.length ≤ 100000) (hu : u.length ≤ 100000) :
    Calls Tryz.prog 27 #[st head, .slice (some ⟨m, 0, none⟩) 2 2] w fun e w' => e = .returned (st (toldS head [t, u])) ∧ Ext w w' := by
  have hs : Strs w (.slice (some ⟨m, 0, none⟩) 2 2) [t, u] := ⟨rfl, _, _, rfl, Nat.le_refl _, fun i x hx => ⟨m, 0, rfl, World.block_lt_of_cell? w _ hc, by
    match i with
    | 0 => simp at hx; subst hx; exact hc
    | 1 => simp at hx; subst hx; exact hc2
    | i + 2 => simp at hx⟩⟩
  exact told_any head _ [t, u] _ hs hh (by simp) (by have := join_le [t, u]; simp [sumLen] at this; omega)

/-! The rules. -/
def hashO (known : List Str) (args : List Int) : Option Str := (argsO known args 1).bind fun l => some (toldS sHash [l.getD 0 []])
def xorO (known : List Str) (args : List Int) : Option Str := (argsO known args 2).bind fun l => if flatB (l.getD 0 []) && flatB (l.getD 1 []) then some (xorS (l.getD 0 []) (l.getD 1 [])) else none
/-- What is shown of y by the key x. -/
def showT (x y : Str) : Option Str :=
  if hd y = sHide ∧ (rd y).2.getD 0 [] = x then some ((rd y).2.getD 1 [])
  else if hd y = sHidden ∧ x = toldS sKey [(rd y).2.getD 0 []] then some (toldS sInside [(rd y).2.getD 0 []]) else none
def hideT (x y : Str) : Str :=
  if hd y = sInside ∧ x = toldS sKey [(rd y).2.getD 0 []] then toldS sHidden [(rd y).2.getD 0 []] else toldS sHide [x, y]
def showO (known : List Str) (args : List Int) : Option Str := (argsO known args 2).bind fun l => if flatB (l.getD 0 []) then showT (l.getD 0 []) (l.getD 1 []) else none
def hideO (known : List Str) (args : List Int) : Option Str := (argsO known args 2).bind fun l => if flatB (l.getD 0 []) then some (hideT (l.getD 0 []) (l.getD 1 [])) else none
def ownO (args : List Int) (n : Int) : Option Str := if args = [] ∧ 0 ≤ n ∧ n ≤ 255 then some (toldS sOwn [Lib.decDigits n.toNat]) else none

/-- What a rule hands back. -/
def StepOut (x : Option Str) (w : World) (e : Ending) (w' : World) : Prop := ∃ (s : Str) (b : Bool), e = .returned (.tuple #[st s, .bool b]) ∧ Below w.heap.size w w' ∧ (if b then some s else none) = x

/-- What the rules' walks stand on. -/
structure Stands (w : World) (g : Nat) (ov kv sv : Value) (known : List Str) (args : List Int) (n : Int) : Prop where
  hg : g < w.heap.size
  know : KnowAt w g ov kv
  strs : Strs w kv known
  ints : Ints w sv args
  nok : i64ok n
  al : args.length ≤ 1000
  kl : known.length ≤ 1000000
  glob : Glob w
  good : ∀ s ∈ known, Good 20 s
theorem Stands.mono {w w' : World} {g : Nat} {ov kv sv : Value} {known : List Str} {args : List Int} {n : Int} (h : Stands w g ov kv sv known args n) (hb : Below w.heap.size w w') : Stands w' g ov kv sv known args n :=
  ⟨Nat.lt_of_lt_of_le h.hg hb.size, h.know.mono h.hg hb, h.strs.mono hb, h.ints.mono hb, h.nok, h.al, h.kl, h.glob.mono hb, h.good⟩
end Go.Proofs.YtmiokpcolpcbaaaGreatDoor
