/- What a rule makes of texts, as a plain function; a step is a rule of what is picked. No program in sight. -/
import Derived.Test.YtmiokpcolpcbaaaGreatDoorRun
namespace Go.Proofs.YtmiokpcolpcbaaaGreatDoor

def ruleO (l : List AObj) (r n : Int) (t : List Str) : Option Str :=
  if r = 1 then (if t.length = 1 then some (toldS sHash [t.getD 0 []]) else none)
  else if r = 2 then (if t.length = 2 ∧ flatB (t.getD 0 []) = true ∧ flatB (t.getD 1 []) = true then some (xorS (t.getD 0 []) (t.getD 1 [])) else none)
  else if r = 3 then (if enoughS l t < 0 ∨ n < 0 ∨ 1 < n then none else some (joinT (enoughS l t).toNat n))
  else if r = 4 then (if enoughS l t < 0 ∨ n < 0 ∨ nOf l (enoughS l t) ≤ n then none else some (toldS sPiece [Lib.decDigits (enoughS l t).toNat, Lib.decDigits n.toNat]))
  else if r = 5 then (if t.length = 2 ∧ flatB (t.getD 0 []) = true then showT (t.getD 0 []) (t.getD 1 []) else none)
  else if r = 6 then (if t.length = 2 ∧ flatB (t.getD 0 []) = true then some (hideT (t.getD 0 []) (t.getD 1 [])) else none)
  else if r = 7 then (if t = [] ∧ 0 ≤ n ∧ n ≤ 255 then some (toldS sOwn [Lib.decDigits n.toNat]) else none)
  else none

theorem argsO_of {known : List Str} {args : List Int} {m : Nat} {t : List Str} (h : pickS known args = some t) : argsO known args m = if t.length = m then some t else none := by
  unfold argsO
  rw [h]
  by_cases e : t.length = m <;> simp [Option.filter, e]
theorem argsO_none {known : List Str} {args : List Int} {m : Nat} (h : pickS known args = none) : argsO known args m = none := by
  unfold argsO; rw [h]; rfl
theorem objectO_of {l : List AObj} {known : List Str} {args : List Int} {t : List Str} (h : pickS known args = some t) : objectO l known args = enoughS l t := by unfold objectO; rw [h]
theorem objectO_none {l : List AObj} {known : List Str} {args : List Int} (h : pickS known args = none) : objectO l known args = -1 := by unfold objectO; rw [h]

theorem step_rule (l : List AObj) (known : List Str) (s : AStep) : stepO l known s = (pickS known s.args).bind (ruleO l s.rule s.n) := by
  cases hp : pickS known s.args with
  | none =>
    rw [Option.bind_none]
    unfold stepO hashO xorO joinO moreO showO hideO
    rw [argsO_none hp, argsO_none hp, objectO_none hp]
    have hne : s.args ≠ [] := by
      intro e
      rw [e] at hp
      simp [pickS] at hp
    unfold ownO
    rw [if_neg (fun h : s.args = [] ∧ 0 ≤ s.n ∧ s.n ≤ 255 => hne h.1)]
    simp
  | some t =>
    rw [Option.bind_some]
    have hl := pickS_length hp
    unfold stepO ruleO hashO xorO joinO moreO showO hideO
    rw [argsO_of hp, argsO_of hp, objectO_of hp]
    have hnil : s.args = [] ↔ t = [] := by
      rw [← List.length_eq_zero_iff, ← List.length_eq_zero_iff, hl]
    unfold ownO
    simp only [hnil]
    by_cases h1 : t.length = 1
    · simp [h1]
    · by_cases h2 : t.length = 2
      · simp [h2]
      · simp [h1, h2]

theorem told_ne (h : Str) (l : List Str) : toldS h l ≠ [] := by simp [toldS]
theorem Term.ne {L : Nat} {s : Str} (h : Term L s) : s ≠ [] := by
  cases h <;> exact told_ne _ _
end Go.Proofs.YtmiokpcolpcbaaaGreatDoor
