/- args of attack's know. -/
import Derived.Test.YtmiokpcolpcbaaaGreatDoorRep
import Derived.Test.YtmiokpcolpcbaaaGreatDoorPureL
namespace Go.Proofs.YtmiokpcolpcbaaaGreatDoor
open Go.RowKit

/-- What a step speaks of, by what is known. -/
def pickS (known : List Str) : List Int → Option (List Str)
  | [] => some []
  | i :: r => if i < 0 then none else match known[i.toNat]? with
    | none => none
    | some s => (pickS known r).map (s :: ·)
theorem pickS_snoc (known : List Str) (l : List Int) (i : Int) : pickS known (l ++ [i]) = (pickS known l).bind fun ls => if i < 0 then none else (known[i.toNat]?).map fun s => ls ++ [s] := by
  induction l with
  | nil =>
    simp only [List.nil_append, pickS, Option.bind_some]
    by_cases h : i < 0
    · simp [h]
    · simp only [h, if_false]
      cases known[i.toNat]? <;> rfl
  | cons a l ih =>
    simp only [List.cons_append, pickS, ih]
    by_cases h : a < 0
    · simp [h]
    · simp only [h, if_false]
      cases known[a.toNat]? with
      | none => rfl
      | some s =>
        cases pickS known l with
        | none => rfl
        | some ls =>
          by_cases h : i < 0
          · simp [h]
          · simp only [Option.bind_some, Option.map_some, h, if_false]
            cases known[i.toNat]? <;> simp
theorem pickS_take {known : List Str} {l : List Int} {k : Nat} {i : Int} (hk : l[k]? = some i) : pickS known (l.take (k + 1)) = (pickS known (l.take k)).bind fun ls => if i < 0 then none else (known[i.toNat]?).map fun s => ls ++ [s] := by
  rw [List.take_add_one, hk]; exact pickS_snoc _ _ _
theorem pickS_none {known : List Str} (l m : List Int) (h : pickS known l = none) : pickS known (l ++ m) = none := by
  induction l with
  | nil => simp [pickS] at h
  | cons a l ih =>
    simp only [List.cons_append, pickS] at h ⊢
    by_cases h0 : a < 0
    · simp [h0]
    · simp only [h0, if_false] at h ⊢
      cases hs : known[a.toNat]? with
      | none => rfl
      | some s =>
        simp only [hs] at h ⊢
        rw [ih (by simpa using h)]; rfl
theorem pickS_length {known : List Str} : ∀ {l : List Int} {ls : List Str}, pickS known l = some ls → ls.length = l.length
  | [], ls, h => by simp [pickS] at h; subst h; rfl
  | a :: l, ls, h => by
    simp only [pickS] at h
    split at h
    · cases h
    · split at h
      · cases h
      · rw [Option.map_eq_some_iff] at h
        obtain ⟨r, h1, rfl⟩ := h
        simp [pickS_length h1]

/-- What args hands back. -/
def ArgsPost (known : List Str) (args : List Int) (many : Int) (l : List Str) (b : Bool) : Prop := match pickS known args with
  | none => l = [] ∧ b = false
  | some ls => l = ls ∧ b = (decide (many < 0) || decide ((ls.length : Int) = many))
theorem ArgsPost.no {known : List Str} {args : List Int} {many i : Int} {k : Nat} (hk : args[k]? = some i) (h : i < 0 ∨ (known.length : Int) ≤ i) : ArgsPost known args many [] false := by
  have h1 : pickS known (args.take (k + 1)) = none := by
    rw [pickS_take hk]
    cases pickS known (args.take k) with
    | none => rfl
    | some ls =>
      rw [Option.bind_some]
      split
      · rfl
      · rw [List.getElem?_eq_none (by omega)]; rfl
  have h2 := pickS_none (args.take (k + 1)) (args.drop (k + 1)) h1
  rw [List.take_append_drop] at h2
  simp [ArgsPost, h2]
theorem ArgsPost.yes {known : List Str} {args : List Int} {many : Int} {ls : List Str} (h : pickS known args = some ls) : ArgsPost known args many ls (decide (many < 0) || decide ((ls.length : Int) = many)) := by
  simp [ArgsPost, h]

/-- What is known, of what objects. -/
def KnowAt (w : World) (g : Nat) (ov kv : Value) : Prop := w.cell? ⟨g, 0, none⟩ = some ov ∧ w.cell? ⟨g, 1, none⟩ = some kv
theorem KnowAt.mono {w w' : World} {g : Nat} {ov kv : Value} (h : KnowAt w g ov kv) (hg : g < w.heap.size) (hb : Below w.heap.size w w') : KnowAt w' g ov kv :=
  ⟨(hb.cell (p := ⟨g, 0, none⟩) hg).trans h.1, (hb.cell (p := ⟨g, 1, none⟩) hg).trans h.2⟩

/-- A step, by value. -/
def stepV (r : Int) (av : Value) (n : Int) : Value := .agg #[.int .i64 r, av, .int .i64 n]

def ArgsOut (known : List Str) (args : List Int) (many : Int) (w : World) (e : Ending) (w' : World) : Prop :=
  ∃ (av : Value) (l : List Str) (b : Bool), e = .returned (.tuple #[av, .bool b]) ∧ OwnsS w' w.heap.size av l ∧ Below w.heap.size w w' ∧ ArgsPost known args many l b

set_option maxRecDepth 100000 in
set_option maxHeartbeats 2000000 in
theorem args_att (g : Nat) (ov kv sv : Value) (known : List Str) (args : List Int) (r n many : Int) (w : World) (hg : g < w.heap.size) (hk : KnowAt w g ov kv) (hs : Strs w kv known) (ha : Ints w sv args) (hl : args.length ≤ 1000) (hkl : known.length ≤ 1000000) :
    Calls Tryz.prog 58 #[.pointer (some ⟨g, 0, none⟩), .agg #[.int .i64 r, sv, .int .i64 n], .int .i64 many] w (ArgsOut known args many w) := by
  obtain ⟨sa, sc, rfl, _⟩ := ha.split
  obtain ⟨ka, kc, rfl, _⟩ := hs.split
  go_enter Tryz.func58, Tryz.ntmps58
  go_wp2
  go_loopw [14, 8] (fun i o wr => ∃ (k : Nat) (av : Value) (ls : List Str), k ≤ args.length ∧ i = .int .i64 k ∧ av = o ∧ ls.length = k ∧ pickS known (args.take k) = some ls ∧ OwnsS wr w.heap.size av ls ∧ Below w.heap.size w wr) (fun i _ _ => args.length - (intOf i).toNat)
  case atStart => exact ⟨0, _, [], Nat.zero_le _, rfl, rfl, rfl, rfl, OwnsS.nil _ _, (by repeat (first | exact Below.refl _ _ | refine Below.setCell ?_ (by first | (simp; done) | (simp; omega)) _ | refine Below.alloc ?_ (by first | (simp; done) | (simp; omega)) _ | refine below_drewN ?_ _ | refine Below.drew ?_))⟩
  case round =>
    obtain ⟨k, av, ls, hk2, rfl, rfl, hll, hp, r1, r2⟩ := hrel
    have HP := Lib.hid hp; clear hp
    have hsz := r2.size
    by_cases hlt : k < args.length
    · have hkk : args[k]? = some args[k] := by simp [hlt]
      obtain ⟨b, off, rfl, hb, hc, hok⟩ := (ha.mono r2).get hkk
      generalize args[k] = i at *
      have HT := Lib.hid (pickS_take (known := known) hkk)
      obtain ⟨k1, k2⟩ := hk.mono hg r2
      have hs2 := hs.mono r2
      by_cases h0 : i < 0
      · go_wp2
        refine bodyPost_ret (v := .tuple #[.slice none 0 0, .bool false]) (by simp [results, Tryz.results58, go_sem]) rfl ⟨.slice none 0 0, [], false, rfl, OwnsS.nil _ _, r2, ArgsPost.no hkk (.inl h0)⟩
      · by_cases h1 : (known.length : Int) ≤ i
        · go_wp2
          refine bodyPost_ret (v := .tuple #[.slice none 0 0, .bool false]) (by simp [results, Tryz.results58, go_sem]) rfl ⟨.slice none 0 0, [], false, rfl, OwnsS.nil _ _, r2, ArgsPost.no hkk (.inr h1)⟩
        · have hii : known[i.toNat]? = some (known[i.toNat]'(by omega)) := by simp
          obtain ⟨b2, off2, rfl, hb2, hc2⟩ := hs2.get hii
          generalize known[i.toNat]'(by omega) = t at *
          obtain ⟨m, rfl⟩ : ∃ m : Nat, i = m := ⟨i.toNat, by omega⟩
          simp only [Int.toNat_natCast] at hc2 hii
          go_wp2_with (at_builtin; refine wpl_app_str rfl (.tmp 29) (.tmp 37) rfl w.heap.size _ _ rfl (r1.mono (ext_alloc _ _)) wr.heap.size _ rfl (by simp; rfl) (by omega) (by simp; omega) ?_; intro v2 w2 ow2 p2 p3; obtain ⟨p4, zw2, p6⟩ := after_app p2 r1; have bw2 := p6 w w.heap.size (Nat.le_refl _) (by omega) r2; clear p2 p4 p6)
          go_roundw
          case rel => exact ⟨k + 1, v2, ls ++ [t], by omega, by go_num, rfl, by simp; omega, by rw [HT.out, HP.out]; simp [hii], ow2, bw2⟩
          case measure => simp [intOf]; omega
    · have hke : k = args.length := by omega
      subst hke
      have hp := HP.out
      rw [List.take_length] at hp
      have hy := Lib.hid (ArgsPost.yes (many := many) hp)
      obtain ⟨va, vc, hv, _⟩ := r1.strs.split
      subst hv
      by_cases hm : many < 0
      · go_wp2
        refine bodyPost_ret (v := .tuple #[.slice va ls.length vc, .bool true]) (by simp [results, Tryz.results58, go_sem]) rfl ⟨_, ls, true, rfl, r1, r2, by have := hy.out; simpa [hm] using this⟩
      · by_cases he : (ls.length : Int) = many
        · have hb : ((args.length : Int) == many) = true := by rw [beq_iff_eq]; omega
          go_wp2
          refine bodyPost_ret (v := .tuple #[.slice va ls.length vc, .bool true]) (by simp [results, Tryz.results58, go_sem, hb, hll]) rfl ⟨_, ls, true, rfl, r1, r2, by have := hy.out; simpa [hm, he] using this⟩
        · have hb : ((args.length : Int) == many) = false := by rw [beq_eq_false_iff_ne]; omega
          go_wp2
          refine bodyPost_ret (v := .tuple #[.slice va ls.length vc, .bool false]) (by simp [results, Tryz.results58, go_sem, hb, hll]) rfl ⟨_, ls, false, rfl, r1, r2, by have := hy.out; rw [decide_eq_false (by omega : ¬ many < 0), decide_eq_false he] at this; exact this⟩
end Go.Proofs.YtmiokpcolpcbaaaGreatDoor
