/- among of the statements. -/
import Derived.Test.YtmiokpcolpcbaaaGreatDoorBase
import Derived.Test.YtmiokpcolpcbaaaGreatDoorPure
namespace Go.Proofs.YtmiokpcolpcbaaaGreatDoor
open Go.RowKit

set_option maxHeartbeats 1000000 in
theorem among_law (v : Value) (l : List Str) (s : Str) (w : World) (h : Strs w v l) (hm : l.length ≤ 1000000000) :
    Calls Tryz.prog 15 #[v, st s] w fun e w' => e = .returned (.bool (hasB l s)) ∧ w = w' := by
  obtain ⟨a, cap, rfl, hcap⟩ := h.split
  go_enter Tryz.func15, Tryz.ntmps15
  go_wp2
  go_loop [8] (fun i => ∃ k : Nat, k ≤ l.length ∧ i = .int .i64 k ∧ hasB (l.take k) s = false) (fun i => l.length - (intOf i).toNat)
  case atStart => exact ⟨0, Nat.zero_le _, rfl, rfl⟩
  case round =>
    obtain ⟨k, hk, rfl, hn⟩ := hrel
    have HN := Lib.hid hn; clear hn
    by_cases hlt : k < l.length
    · have hkk : l[k]? = some l[k] := by simp [hlt]
      obtain ⟨b, off, rfl, hb, hc⟩ := h.get hkk
      generalize l[k] = t at *
      have HK := Lib.hid hkk; clear hkk
      go_wp2
      · have hr := hasB_of HK.out (by assumption)
        go_ret
        exact ⟨by rw [hr]; rfl, rfl⟩
      · go_round
        case rel => exact ⟨k + 1, by omega, by go_num, hasB_take_succ HK.out HN.out (by assumption)⟩
        case measure => simp [intOf]; omega
    · go_wp2
      go_ret
      have : k = l.length := by omega
      subst this
      have h1 := HN.out
      rw [List.take_length] at h1
      exact ⟨by rw [h1]; rfl, rfl⟩

end Go.Proofs.YtmiokpcolpcbaaaGreatDoor
