/- Long of the reference. -/
import Derived.Test.YtmiokpcolpcbaaaGreatDoorRep
namespace Go.Proofs.YtmiokpcolpcbaaaGreatDoor
open Go.RowKit
def shortO (o : AObj) : Bool := decide ((o.secret.length : Int) ≤ 300) && (decide (o.n ≤ 12) || decide (255 < o.n))
def shortS (s : AStep) : Bool := decide ((s.args.length : Int) ≤ 20)
def shortB (l : List AObj) (g : List (Int × Int)) (s : List AStep) : Bool := decide (l.length ≤ 8) && decide (g.length ≤ 40) && decide (s.length ≤ 60) && l.all shortO && s.all shortS
theorem all_no {α : Type} {p : α → Bool} {o : α} {l : List α} {k : Nat} (hk : l[k]? = some o) (h : p o = false) : l.all p = false := by
  rw [List.all_eq_false]
  exact ⟨o, List.mem_of_getElem? hk, by simp [h]⟩
theorem all_yes {α : Type} {p : α → Bool} {o : α} {l : List α} {k : Nat} (hk : l[k]? = some o) (h : p o = true) (hn : (l.take k).all p = true) : (l.take (k + 1)).all p = true := by
  rw [List.take_add_one, hk]
  simp only [Option.toList_some, List.all_append, hn, List.all_cons, h, List.all_nil, Bool.and_self]

set_option maxRecDepth 100000 in
set_option maxHeartbeats 1000000 in
theorem long_ref (v u x : Value) (l : List AObj) (g : List (Int × Int)) (s : List AStep) (w : World) (h : Objs w v l) (hg : Pieces w u g) (hs : Steps w x s) :
    Calls Tryz.prog 8 #[v, u, x] w fun e w' => e = .returned (.bool (!shortB l g s)) ∧ ∃ n, w' = w.drewN n := by
  obtain ⟨hm, a, cap, rfl, hO⟩ := h
  obtain ⟨hm2, a2, cap2, rfl, _⟩ := hg
  obtain ⟨hm3, a3, cap3, rfl, hS⟩ := hs
  by_cases hL : l.length ≤ 8 ∧ g.length ≤ 40 ∧ s.length ≤ 60
  · obtain ⟨L1, L2, L3⟩ := hL
    go_enter Tryz.func8, Tryz.ntmps8
    go_wp2
    go_loopw [7] (fun i wr => ∃ k : Nat, k ≤ l.length ∧ i = .int .i64 k ∧ (l.take k).all shortO = true ∧ ∃ n, wr = w.drewN n) (fun i _ => l.length - (intOf i).toNat)
    case atStart => exact ⟨0, Nat.zero_le _, rfl, rfl, (by first | exact ⟨0, rfl⟩ | exact ⟨_, rfl⟩ | exact ⟨_, World.drewN_drewN _ _ _⟩ | exact ⟨_ + 1, rfl⟩)⟩
    case round =>
      obtain ⟨k, hk, rfl, hn, nw, rfl⟩ := hrel
      have HN := Lib.hid hn; clear hn
      by_cases hlt : k < l.length
      · have hkk : l[k]? = some l[k] := by simp [hlt]
        obtain ⟨b, off, rfl, hb, o1⟩ := hO k l[k] hkk
        obtain ⟨⟨sv, o2, o3⟩, o4, o5, o6, o7, o8, o9⟩ := o1
        obtain ⟨o3a, a3, cap3, rfl, o3b⟩ := o3
        clear hO o5 o3b
        generalize l[k] = o at *
        have HK := Lib.hid hkk; clear hkk
        go_wp2
        all_goals try (have hr := all_no (p := shortO) HK.out (by simp [shortO]; omega); go_ret; exact ⟨by simp [shortB, hr], (by first | exact ⟨0, rfl⟩ | exact ⟨_, rfl⟩ | exact ⟨_, World.drewN_drewN _ _ _⟩ | exact ⟨_ + 1, rfl⟩)⟩)
        all_goals go_roundw
        all_goals first | exact ⟨k + 1, by omega, by go_num, all_yes HK.out (by simp [shortO]; omega) HN.out, (by first | exact ⟨0, rfl⟩ | exact ⟨_, rfl⟩ | exact ⟨_, World.drewN_drewN _ _ _⟩ | exact ⟨_ + 1, rfl⟩)⟩ | (simp [intOf]; omega)
      · have : k = l.length := by omega
        subst this
        have h1 := HN.out
        rw [List.take_length] at h1
        have H1 := Lib.hid h1
        clear h1 HN
        go_wp2
        go_loopw [8] (fun i wr => ∃ k : Nat, k ≤ s.length ∧ i = .int .i64 k ∧ (s.take k).all shortS = true ∧ ∃ n, wr = w.drewN n) (fun i _ => s.length - (intOf i).toNat)
        case atStart => exact ⟨0, Nat.zero_le _, rfl, rfl, (by first | exact ⟨0, rfl⟩ | exact ⟨_, rfl⟩ | exact ⟨_, World.drewN_drewN _ _ _⟩ | exact ⟨_ + 1, rfl⟩)⟩
        case round =>
          obtain ⟨k, hk, rfl, hn, nw, rfl⟩ := hrel
          have HN := Lib.hid hn; clear hn
          by_cases hlt : k < s.length
          · have hkk : s[k]? = some s[k] := by simp [hlt]
            obtain ⟨b, off, rfl, hb, o1⟩ := hS k s[k] hkk
            obtain ⟨sv, o2, o3⟩ := o1.args
            obtain ⟨sa, sc, rfl, _⟩ := o3.split
            have o3l := o3.2.1
            clear hS o1 o3
            generalize s[k] = o at *
            have HK := Lib.hid hkk; clear hkk
            go_wp2
            · have hr := all_no (p := shortS) HK.out (by simp [shortS]; omega)
              go_ret
              exact ⟨by simp [shortB, hr], (by first | exact ⟨0, rfl⟩ | exact ⟨_, rfl⟩ | exact ⟨_, World.drewN_drewN _ _ _⟩ | exact ⟨_ + 1, rfl⟩)⟩
            · go_roundw
              case rel => exact ⟨k + 1, by omega, by go_num, all_yes HK.out (by simp [shortS]; omega) HN.out, (by first | exact ⟨0, rfl⟩ | exact ⟨_, rfl⟩ | exact ⟨_, World.drewN_drewN _ _ _⟩ | exact ⟨_ + 1, rfl⟩)⟩
              case measure => simp [intOf]; omega
          · have : k = s.length := by omega
            subst this
            have h2 := HN.out
            rw [List.take_length] at h2
            go_wp2
            go_ret
            exact ⟨by simp [shortB, H1.out, h2, L1, L2, L3], (by first | exact ⟨0, rfl⟩ | exact ⟨_, rfl⟩ | exact ⟨_, World.drewN_drewN _ _ _⟩ | exact ⟨_ + 1, rfl⟩)⟩
  · have hr : shortB l g s = false := by
      have : (decide (l.length ≤ 8) && decide (g.length ≤ 40) && decide (s.length ≤ 60)) = false := by
        simp only [Bool.and_eq_false_iff, decide_eq_false_iff_not]; omega
      simp [shortB, this]
    have HR := Lib.hid hr; clear hr
    go_enter Tryz.func8, Tryz.ntmps8
    go_wp2
    all_goals first | (exfalso; omega) | (go_ret; exact ⟨by rw [HR.out]; rfl, (by first | exact ⟨0, rfl⟩ | exact ⟨_, rfl⟩ | exact ⟨_, World.drewN_drewN _ _ _⟩ | exact ⟨_ + 1, rfl⟩)⟩)
end Go.Proofs.YtmiokpcolpcbaaaGreatDoor
