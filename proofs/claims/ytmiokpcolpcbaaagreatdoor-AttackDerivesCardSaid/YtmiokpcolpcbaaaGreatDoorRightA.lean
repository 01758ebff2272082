/- right of attack. -/
import Derived.Test.YtmiokpcolpcbaaaGreatDoorRep
namespace Go.Proofs.YtmiokpcolpcbaaaGreatDoor
open Go.RowKit
set_option maxRecDepth 100000 in
set_option maxHeartbeats 400000 in
theorem right_att (v : Value) (l : List AObj) (w : World) (h : Objs w v l) :
    Calls Tryz.prog 26 #[v] w fun e w' => e = .returned (.bool (rightL l)) ∧ Below w.heap.size w w' := by
  obtain ⟨a, cap, rfl, _⟩ := h.2
  have hm := h.1
  go_enter Tryz.func26, Tryz.ntmps26
  go_wp2
  go_loopw [7] (fun i wr => ∃ k : Nat, k ≤ l.length ∧ i = .int .i64 k ∧ (l.take k).all rightO = true ∧ Below w.heap.size w wr) (fun i _ => l.length - (intOf i).toNat)
  case atStart => exact ⟨0, Nat.zero_le _, rfl, rfl, Below.refl _ _⟩
  case round =>
    obtain ⟨k, hk, rfl, hn, hw⟩ := hrel
    have HN := Lib.hid hn; clear hn
    by_cases hlt : k < l.length
    · have hkk : l[k]? = some l[k] := by simp [hlt]
      obtain ⟨_, a', cap', e, hO⟩ := h.mono hw
      cases e
      obtain ⟨b, off, rfl, hb, o1⟩ := hO k l[k] hkk
      obtain ⟨sv, o2, o3⟩ := o1.sec
      obtain ⟨o3a, a3, cap3, rfl, o3b⟩ := o3
      have g0 := objRow_0 (sv := .slice a3 l[k].secret.length cap3) (o := l[k])
      have gk := objRow_k (sv := .slice a3 l[k].secret.length cap3) o1.klen
      have gn := objRow_n (sv := .slice a3 l[k].secret.length cap3) o1.klen
      have O1 := Lib.hid o1
      have O2 := Lib.hid o2
      obtain ⟨o8, o9⟩ : i64ok l[k].k ∧ i64ok l[k].n := ⟨o1.kok, o1.nok⟩
      clear hO o3a o3b o1 o2
      generalize l[k] = o at *
      have HK := Lib.hid hkk; clear hkk
      go_wp2_with (first | (refine wpl_load_obj rfl (.tmp 9) rfl b (off + k * 35) rfl o _ O1.out O2.out ?_) | (refine wpl_store_obj rfl (.tmp 4) (.tmp 10) rfl _ o (.slice a3 o.secret.length cap3) rfl rfl rfl O1.out.klen rfl ?_; generalize objRow (.slice a3 o.secret.length cap3) o = cs at *))
      all_goals try (have hr := rightO_no HK.out (by simp [rightO]; omega); go_ret; exact ⟨by rw [hr]; rfl, (by repeat (first | exact Below.refl _ _ | exact hw | refine Below.trans ?_ (Below.mono hw (by first | (simp; done) | (simp; omega) | omega)) | refine Below.setCell ?_ (by first | (simp; done) | (simp; omega) | (have hszq := (hw).size; simp at hszq ⊢; omega)) _ | refine Below.alloc ?_ (by first | (simp; done) | (simp; omega) | (have hszq := (hw).size; simp at hszq ⊢; omega)) _ | refine below_drewN ?_ _ | refine Below.drew ?_))⟩)
      go_roundw
      case rel => exact ⟨k + 1, by omega, by go_num, rightO_yes HK.out (by simp [rightO]; omega) HN.out, (by repeat (first | exact Below.refl _ _ | exact hw | refine Below.trans ?_ (Below.mono hw (by first | (simp; done) | (simp; omega) | omega)) | refine Below.setCell ?_ (by first | (simp; done) | (simp; omega) | (have hszq := (hw).size; simp at hszq ⊢; omega)) _ | refine Below.alloc ?_ (by first | (simp; done) | (simp; omega) | (have hszq := (hw).size; simp at hszq ⊢; omega)) _ | refine below_drewN ?_ _ | refine Below.drew ?_))⟩
      case measure => simp [intOf]; omega
    · go_wp2
      go_ret
      have : k = l.length := by omega
      subst this
      have h1 := HN.out
      rw [List.take_length] at h1
      exact ⟨by simp [rightL, h1]; omega, hw⟩
end Go.Proofs.YtmiokpcolpcbaaaGreatDoor
