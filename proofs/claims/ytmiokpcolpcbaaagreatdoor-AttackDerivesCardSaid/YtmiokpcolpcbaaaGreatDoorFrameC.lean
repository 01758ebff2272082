/- The frame of the last step: what a row's first world gives, arguments read again, the witness' world. -/
import Derived.Test.YtmiokpcolpcbaaaGreatDoorOpenL
import Derived.Test.YtmiokpcolpcbaaaGreatDoorLib
import Derived.Test.YtmiokpcolpcbaaaGreatDoorCards
import Derived.Test.YtmiokpcolpcbaaaGreatDoorTie
import Derived.ReadAgain
import Derived.Shelf.Vars
import Derived.Lib.LaidTab
namespace Go.Proofs.YtmiokpcolpcbaaaGreatDoor
open Go.ChangeShapes Go.WideShapes Go.ChangeAt Go.RowKit Go.Deep

theorem frOwn : ownKnob Tryz.prog.godebug = none := by kernel_rfl
theorem frKids : Kids Tryz.prog (· < Tryz.prog.types.size) := kids_rows (by kernel_rfl) (by kernel_rfl)
theorem frFull : ∀ t e, t < Tryz.prog.types.size → Tryz.prog.underlying t = some (.slice e) → 0 < Tryz.prog.cellsOf e := slices_full_of Tryz.prog (by kernel_rfl)
theorem gPowType : (Tryz.prog.globals[1]?).map (·.type) = some 251 := by kernel_rfl
theorem cellsPow : Tryz.prog.cellsOf 251 = 20 := by kernel_rfl
theorem cellsU64 : Tryz.prog.cellsOf 125 = 1 := by kernel_rfl

/-- What the row's list and its world's shape give. -/
theorem glob_of {W : World} (h : laidMetH Tryz.prog Rows.attackSafeRow.laid W) (hs : W.ShapedOpen Tryz.prog) : Glob W := by
  obtain ⟨m, hm⟩ : ∃ m, W.cell? ⟨0, 0, none⟩ = some (.int .i64 m) :=
    Go.Proofs.cell_of_shapedOpen_int (zero := #[.int .i64 0]) (t := 3) hs (of_decide_eq_true (by kernel_rfl)) (by kernel_rfl) rfl (by kernel_rfl) (by kernel_rfl) Tryz.underlying3
  have h1 : laidMetH Tryz.prog [("internal/strconv.uint64pow10", Rows.laid_internal_strconv_uint64pow10)] W := laidMetH.filter (fun x => x.1 == "internal/strconv.uint64pow10") h
  have h2 : Lib.TabIs Tryz.prog W "internal/strconv.uint64pow10" .u64 Lib.pow10Tab :=
    Lib.tabIs_of_head (rest := []) gPow gPowType Tryz.underlying251 Tryz.underlying125 cellsU64 cellsPow h1
  refine ⟨⟨m, hm⟩, h2, ?_⟩
  have h3 := World.block_lt_of_cell? W _ (h2.cell gPow 0 (by decide))
  simp only at h3
  omega

section
variable {H : Type} {enc : TypeId × Value → H} {P : Program}
theorem trodAll_carry {w w' : World} {base : Nat} {spare : Nat → Bool} {held : Bool} : ∀ {ts : List TypeId} {vs : List Value} {ds : List (DataW H)} {ps : List MemPlace},
    DataW.TrodAll enc P w base spare held ts vs ds ps → (∀ p ∈ ps, w.sameAt w' p) → DataW.TrodAll enc P w' base spare held ts vs ds ps
  | [], [], [], _, h, _ => h
  | _ :: _, _ :: _, _ :: _, _, ⟨p, q, ⟨n, h1⟩, h2, e⟩, hs =>
    ⟨p, q, ⟨n, DataW.trod_carry n _ _ _ h1 (fun x hx => hs x (by rw [e]; exact List.mem_append_left _ hx))⟩, trodAll_carry h2 (fun x hx => hs x (by rw [e]; exact List.mem_append_right _ hx)), e⟩
  | [], _ :: _, _, _, h, _ => by cases h
  | [], [], _ :: _, _, h, _ => by cases h
  | _ :: _, [], _, _, h, _ => by cases h
  | _ :: _, _ :: _, [], _, h, _ => by cases h

set_option maxRecDepth 100000 in
/-- The row's last step: true comes back, nothing that was there has turned. -/
theorem post_true {f : Func} {s : ChangeSpec} {W W' : World} {args : Array Value} {ds gs : List (DataW H)} {before : List MemPlace}
    (hres : f.resultTypes = #[4]) (hsv : s.vars = []) (hsf0 : s.fn H (ds ++ []) = { results := [.lit (.bool true)], args := ds }) (hT : ∀ t ∈ f.params.toList, t < Tryz.prog.types.size)
    (hW : DataW.Whole enc Tryz.prog f.params.toList s.vars false W args.toList ds gs before) (hb : Below W.heap.size W W') :
    s.post enc Tryz.prog f false true false false W args (.bool true) W' := by
  obtain ⟨p, q, hA0, hV, hpq, hfz, hnd⟩ := id hW
  have hA : DataW.TrodAll enc Tryz.prog W 0 (fun _ => true) true f.params.toList args.toList ds p := hA0
  obtain ⟨hgs, hq⟩ : gs = [] ∧ q = [] := by rw [hsv] at hV; exact trodVars_none hV
  have hsf : s.fn H (ds ++ gs) = { results := [.lit (.bool true)], args := ds } := by rw [hgs]; exact hsf0
  have hpb : before = p := by rw [hpq, hq]; simp
  have hlt : ∀ x ∈ before, x.block < W.heap.size := fun x hx => hW.lt x hx
  have hold : ∀ x ∈ before, (fun b => decide (b < W.heap.size)) x.block = true := fun x hx => by simpa using hlt x hx
  have hsame : ∀ x ∈ p, W.sameAt W' x := fun x hx => hb.same (hlt x (by rw [hpb]; exact hx))
  have hargs : ∀ sp : Nat → Bool, (∀ x ∈ before, sp x.block = true) → DataW.TrodAll enc Tryz.prog W' 0 sp true f.params.toList args.toList (s.fn H (ds ++ gs)).args p := fun sp hsp => by
    rw [hsf]
    exact DataW.TrodAll.respare frKids frFull hT (trodAll_carry hA hsame) (fun x hx => hsp x (by rw [hpb]; exact hx))
  have hrs : ∀ (b : Nat) (sp : Nat → Bool) (hd : Bool), DataW.TrodAll enc Tryz.prog W' b sp hd f.resultTypes.toList ((Value.bool true).resultList f.resultTypes.size) (s.fn H (ds ++ gs)).results [] := fun b sp hd => by
    rw [hsf, hres]
    exact trodAll_cons_mk (shut_bool Tryz.underlying4 _) trodAll_mk0
  have hvars : ∀ sp : Nat → Bool, (∀ x ∈ before, sp x.block = true) → DataW.TrodVars enc Tryz.prog W' sp s.vars (s.fn H (ds ++ gs)).vars [] := fun sp _ => by rw [hsf, hsv]; rfl
  have hok : ∀ (j : Nat) (t : TypeId) (r : Value), f.resultTypes[j]? = some t → ((Value.bool true).resultList f.resultTypes.size)[j]? = some r → Value.okWide Tryz.prog W' .any 0 t r := ok_one hres rfl (okWide_bool_mk Tryz.underlying4 _)
  refine ⟨ds, gs, before, [], p, [], hW, hrs _ _ _, hargs _ hold, hvars _ hold, World.keptBut_mono (fun x hx => ⟨hx, ?_⟩) (hb.frame (· ∈ before)), fun _ => ?_⟩
  · rw [hpb] at hx
    exact Or.inr (Or.inl hx)
  · refine ⟨hok, _, _, ([] ++ p) ++ [], ⟨[] ++ p, [], trodAll_append (hargs _ (fun _ _ => rfl)) (hrs _ _ _), hvars _ (fun _ _ => rfl), rfl, ?_, ?_⟩, ?_⟩
    · intro b off hp
      have hin : MemPlace.cell b off ∈ before := by rw [hpb]; simpa using hp
      rw [hb.frozen (hlt _ hin)]
      exact hfz b off hin
    · intro ha
      cases ha
    · intro x hx _
      rw [hpb]
      simpa using hx
end

/-! A world for the witness: the settled one, the listed variables holding what their initialisers lay. -/
noncomputable def frLow : Nat := (World.holding Tryz.prog default ⟨#[], #[], []⟩).heap.size
def frTab32 : List Int := [0, 1, 28, 2, 29, 14, 24, 3, 30, 22, 20, 15, 25, 17, 4, 8, 31, 27, 13, 23, 21, 19, 16, 7, 26, 12, 18, 6, 11, 5, 10, 9]
def frTab64 : List Int := [0, 1, 56, 2, 57, 49, 28, 3, 61, 58, 42, 50, 38, 29, 17, 4, 62, 47, 59, 36, 45, 43, 51, 22, 53, 39, 33, 30, 24, 18, 12, 5, 63, 55, 48, 27, 60, 41, 37, 16, 46, 35, 44, 21, 52, 32, 23, 11, 54, 26, 40, 15, 34, 20, 31, 10, 25, 14, 19, 9, 13, 8, 7, 6]
def frPow : List Int := [1, 10, 100, 1000, 10000, 100000, 1000000, 10000000, 100000000, 1000000000, 10000000000, 100000000000, 1000000000000, 10000000000000, 100000000000000, 1000000000000000, 10000000000000000, 100000000000000000, 1000000000000000000, 10000000000000000000]
def frLay (c : Array Value) : _root_.Go.Obj → _root_.Go.Obj
  | .cells _ t frozen => .cells c t frozen
  | o => o
noncomputable def frWorld (os : Os) : World :=
  let w0 := World.holding Tryz.prog os ⟨#[.cells #[.string ⟨#[118, 97, 108, 117, 101, 32, 111, 117, 116, 32, 111, 102, 32, 114, 97, 110, 103, 101]⟩] 268, .cells #[.string ⟨#[105, 110, 118, 97, 108, 105, 100, 32, 115, 121, 110, 116, 97, 120]⟩] 268], #[], []⟩
  { w0 with heap := ((((w0.heap.modify 4 (frLay (frTab32.map (Value.int .u8)).toArray)).modify 5 (frLay (frTab64.map (Value.int .u8)).toArray)).modify 1 (frLay (frPow.map (Value.int .u64)).toArray)).modify
      3 (frLay #[.iface 266 (.pointer (some ⟨frLow, 0, none⟩))])).modify 2 (frLay #[.iface 266 (.pointer (some ⟨frLow + 1, 0, none⟩))]) }
theorem fr_laid (os : Os) (args : Array Value) : laidMet Tryz.prog Rows.attackSafeRow.laid ((frWorld os).forCall (fun _ _ => 0) ⟨#[], args, []⟩).memory :=
  laidMet_of_run' 8 (by kernel_rfl) (by kernel_rfl)
end Go.Proofs.YtmiokpcolpcbaaaGreatDoor
