/-
  AttackDerives: any derivation has all that the document's reference says, or is refused by its error; as many unlike pieces are given as it says: the statement's function hands back true, and leaves its arguments alone, for every input.
  Conditions: none beyond those of the given row (the listed package-level variables hold what the program's text lays them with; the card ties this to the text).
-/
import Derived.Test.YtmiokpcolpcbaaaGreatDoorDervL
import Derived.Test.YtmiokpcolpcbaaaGreatDoorFrameC
namespace Go.Proofs.YtmiokpcolpcbaaaGreatDoor
open Go.ChangeShapes Go.WideShapes Go.ChangeAt Go.RowKit Go.Deep

set_option maxRecDepth 100000 in
theorem derives_contract (H : Type) (enc : TypeId × Value → H) (W : World) (base : Nat) (args : Array Value) (ds gs : List (DataW H)) (before : List MemPlace)
    (hval : ∀ (j : Nat) t v, Tryz.f3.params[j]? = some t → args[j]? = some v → Value.okWide Tryz.prog W .any base t v)
    (hW : DataW.Whole enc Tryz.prog Tryz.f3.params.toList Rows.attackDerivesSpec.vars false W args.toList ds gs before) (hL : laidMetH Tryz.prog Rows.attackDerivesRow.laid W) (hs : W.ShapedOpen Tryz.prog) :
    Calls Tryz.prog 3 args W fun e W' => ∃ v, e = .returned v ∧ Rows.attackDerivesSpec.post enc Tryz.prog Tryz.f3 false true false false W args v W' := by
  have hg := glob_of hL hs
  obtain ⟨p, q, hA0, hV, hpq, hfz, hnd⟩ := id hW
  have hA : DataW.TrodAll enc Tryz.prog W 0 (fun _ => true) true Tryz.f3.params.toList args.toList ds p := hA0
  rw [Tryz.params3] at hA hval
  obtain ⟨v0, vs0, d0, ds0, p0, q0, hargs, rfl, rfl, ⟨n0, h0⟩, r0⟩ := trodAll_cons hA
  obtain ⟨v1, vs1, d1, ds1, p1, q1, rfl, rfl, rfl, ⟨n1, h1⟩, r1⟩ := trodAll_cons r0
  obtain ⟨v2, vs2, d2, ds2, p2, q2, rfl, rfl, rfl, ⟨n2, h2⟩, r2⟩ := trodAll_cons r1
  obtain ⟨rfl, rfl, rfl⟩ := trodAll_nil r2
  obtain rfl : args = #[v0, v1, v2] := by cases args; simp_all
  obtain ⟨a0, m0, c0, rfl⟩ := okWide_slice Tryz.underlying22 (hval 0 22 v0 rfl rfl)
  obtain ⟨a1, m1, c1, rfl⟩ := okWide_slice Tryz.underlying23 (hval 1 23 v1 rfl rfl)
  obtain ⟨a2, m2, c2, rfl⟩ := okWide_slice Tryz.underlying24 (hval 2 24 v2 rfl rfl)
  obtain ⟨l, hO⟩ := objs_of h0
  obtain ⟨given, hG⟩ := pieces_of h1
  obtain ⟨steps, hS⟩ := steps_of h2
  refine (derives_law _ _ _ l given steps W hO hG hS hg).mono fun e W' ⟨he, hb⟩ => ⟨_, he, ?_⟩
  exact post_true rfl rfl rfl (by rw [Tryz.params3]; decide) hW hb

theorem derives_reads (os : Os) {H : Type} (enc : TypeId × Value → H) : ∃ places, DataW.whole enc Tryz.prog ((frWorld os).forCall (fun _ _ => 0) ⟨#[], #[.slice none 0 0, .slice none 0 0, .slice none 0 0], []⟩).memory Tryz.f3.params.toList Rows.attackDerivesSpec.vars false #[Value.slice none 0 0, .slice none 0 0, .slice none 0 0].toList 8 = some ([.nil, .nil, .nil], [], places) :=
  ⟨[], by kernel_rfl⟩

set_option maxRecDepth 100000 in
theorem derives_lifted (os : Os) (started : os.Started) (H : Type) (enc : TypeId × Value → H) (F : Stop.Interp) :
    ReturnsInHanded {} Tryz.checked os 3 .any ((OpenSpec.ofChange Rows.attackDerivesSpec).preRow enc Tryz.prog Tryz.f3 Rows.attackDerivesRow.domain false Rows.attackDerivesRow.laid) (((OpenSpec.ofChange Rows.attackDerivesSpec).at F).post enc Tryz.prog Tryz.f3 false true false false) := by
  obtain ⟨places, hx⟩ := derives_reads os enc
  refine returnsInHanded_of_row (C := Tryz.checked) (s := OpenSpec.ofChange Rows.attackDerivesSpec) frOwn started (by kernel_rfl) Tryz.func3
    (witness_row_at (enc := enc) (C := Tryz.checked) false (frWorld os) #[.slice none 0 0, .slice none 0 0, .slice none 0 0] rfl (by kernel_rfl) (by kernel_rfl) (by kernel_rfl)
      (OpenSpec.preRow_of_cond 8 hx (by kernel_rfl) (fun k hk => by cases hk) (by kernel_rfl) (fr_laid os _))) ?_
  intro W base args ds gs before hval hW _ _ _ hL hs _
  exact derives_contract H enc W base args ds gs before hval hW hL hs

theorem derives_said : Rows.AttackDerivesSaid :=
  OpenClaim.holds_of_cond 3 Tryz.f3 rfl rfl rfl rfl rfl rfl rfl ⟨rfl, rfl, rfl, rfl, rfl⟩ rfl rfl rfl rfl rfl (by kernel_rfl) Tryz.func3 (by kernel_rfl)
    (of_decide_eq_true (by kernel_rfl)) (by unfold Func.isWrapper; first | (rw [if_pos (by decide +kernel)]; kernel_rfl) | (rw [if_neg (by decide +kernel)]; exact ⟨rfl, rfl⟩))
    (fun os started H enc _ F => by rw [OpenClaim.pre_eq_preRow]; exact derives_lifted os started H enc F)

theorem derives_plain (f : FuncId) (fn : Func) (hf : Tryz.pinned.checked.prog.funcNamed "scrinium/scriniumlaw26.AttackDerives" = some f) (hfn : Tryz.pinned.checked.prog.funcs[f]? = some fn) :
    true = Tryz.pinned.checked.prog.looks [] ∧ ∀ (j : Nat) t, fn.params[j]? = some t → Tryz.pinned.checked.prog.wantsStandIn t = false := by
  obtain rfl : f = 3 := Option.some.inj ((show Tryz.prog.funcNamed "scrinium/scriniumlaw26.AttackDerives" = some 3 by kernel_rfl).symm.trans hf) |>.symm
  obtain rfl : fn = Tryz.f3 := (Option.some.inj (Tryz.func3.symm.trans hfn)).symm
  refine ⟨by kernel_rfl, fun j t ht => ?_⟩
  have w0 : Tryz.prog.wantsStandIn 22 = false := by kernel_rfl
  have w1 : Tryz.prog.wantsStandIn 23 = false := by kernel_rfl
  have w2 : Tryz.prog.wantsStandIn 24 = false := by kernel_rfl
  rw [Tryz.params3] at ht
  have hm := Array.mem_of_getElem? ht
  simp at hm
  rcases hm with rfl | rfl | rfl
  · exact w0
  · exact w1
  · exact w2

/-- The card. -/
theorem attackDerives_holds : Rows.AttackDerivesCardSaid :=
  Claim7.holds_tied_plain_at .later [] _ _ _ _ derives_said (fun _ h => by cases h) (by kernel_rfl) (fun _ h => by cases h) attackDerives_row_tie rfl ⟨rfl, rfl⟩ (by kernel_rfl) rfl derives_plain (by kernel_rfl)
#print axioms attackDerives_holds
end Go.Proofs.YtmiokpcolpcbaaaGreatDoor
