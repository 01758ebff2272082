/- insert of the reference. -/
import Derived.Test.YtmiokpcolpcbaaaGreatDoorFlatAR
namespace Go.Proofs.YtmiokpcolpcbaaaGreatDoor
open Go.RowKit

set_option maxRecDepth 100000 in
set_option maxHeartbeats 2000000 in
theorem insert_ref (v : Value) (l : List Str) (s : Str) (w : World) (h : Strs w v l) (hm : l.length ≤ 1000000) :
    Calls Tryz.prog 105 #[v, st s] w fun e w' => ∃ av, e = .returned av ∧ OwnsS w' w.heap.size av (insertS l s) ∧ Below w.heap.size w w' := by
  obtain ⟨a, cap, rfl, _⟩ := h.split
  go_enter Tryz.func105, Tryz.ntmps105
  go_wp2
  go_loopw [7, 5, 6] (fun i o p wr => ∃ (k : Nat) (av : Value) (put : Bool) (out : List Str), k ≤ l.length ∧ i = .int .i64 k ∧ av = o ∧ p = .bool put ∧ out.length ≤ 2 * k + 1 ∧ OwnsS wr w.heap.size av out ∧ out ++ insRest (l.drop k) s put = insertS l s ∧ Below w.heap.size w wr) (fun i _ _ _ => l.length - (intOf i).toNat)
  case atStart => exact ⟨0, _, false, [], Nat.zero_le _, rfl, rfl, rfl, by simp, OwnsS.nil _ _, rfl, Below.refl _ _⟩
  case round =>
    obtain ⟨k, av, put, out, hk, rfl, rfl, rfl, hol, r1, r2, r3⟩ := hrel
    have R2 := Lib.hid r2; clear r2
    have hsz := r3.size
    by_cases hlt : k < l.length
    · have hkk : l[k]? = some l[k] := by simp [hlt]
      obtain ⟨b, off, rfl, hb, hc⟩ := (h.mono r3).get hkk
      generalize l[k] = t at *
      have HK := Lib.hid hkk; clear hkk
      cases put with
      | true =>
        have E := Lib.hid (insRest_put (s := s) HK.out)
        go_wp2_with (at_builtin; refine wpl_app_str rfl (.tmp 28) (.tmp 33) rfl w.heap.size _ _ rfl (r1.mono (ext_alloc _ _)) wr.heap.size _ rfl (by simp; rfl) (by omega) (by simp; omega) ?_; intro v2 w2 ow2 p2 p3; obtain ⟨p4, zw2, p6⟩ := after_app p2 r1; have bw2 := p6 w w.heap.size (Nat.le_refl _) (by omega) r3; clear p2 p4 p6)
        go_roundw
        case rel => exact ⟨k + 1, v2, true, out ++ [t], by omega, by go_num, rfl, rfl, by simp; omega, ow2, by have e := R2.out; rw [E.out] at e; rw [← e]; simp, bw2⟩
        case measure => simp [intOf]; omega
      | false =>
        by_cases hlt2 : Op.bytesLess s t = true
        · have E := Lib.hid (insRest_less HK.out hlt2)
          go_wp2_with (first | (at_builtin; refine wpl_app_str rfl (.tmp 24) (.tmp 26) rfl w.heap.size _ _ rfl (r1.mono (ext_alloc _ _)) wr.heap.size _ rfl (by simp; rfl) (by omega) (by simp; omega) ?_; intro v2 w2 ow2 p2 p3; obtain ⟨p4, zw2, p6⟩ := after_app p2 r1; have bw2 := p6 w w.heap.size (Nat.le_refl _) (by omega) r3; clear p2 p4 p6; obtain ⟨_, _, e9, _, hc2⟩ := (h.mono bw2).get HK.out; cases e9) | (at_builtin; refine wpl_app_str rfl (.tmp 28) (.tmp 33) rfl w.heap.size _ _ rfl (ow2.mono (ext_alloc _ _)) w2.heap.size _ rfl (by simp; rfl) (by simp; omega) (by simp; omega) ?_; intro v3 w3 ow3 p2 p3; obtain ⟨p4, zw3, p6⟩ := after_app p2 ow2; have bw3 := p6 w w.heap.size (Nat.le_refl _) (by omega) bw2; clear p2 p4 p6))
          go_roundw
          case rel => exact ⟨k + 1, v3, true, (out ++ [s]) ++ [t], by omega, by go_num, rfl, rfl, by simp; omega, ow3, by have e := R2.out; rw [E.out] at e; rw [← e]; simp, bw3⟩
          case measure => simp [intOf]; omega
        · have hlt3 : Op.bytesLess s t = false := by simpa using hlt2
          have E := Lib.hid (insRest_more HK.out hlt3)
          clear hlt2
          go_wp2_with (at_builtin; refine wpl_app_str rfl (.tmp 28) (.tmp 33) rfl w.heap.size _ _ rfl (r1.mono (ext_alloc _ _)) wr.heap.size _ rfl (by simp; rfl) (by omega) (by simp; omega) ?_; intro v2 w2 ow2 p2 p3; obtain ⟨p4, zw2, p6⟩ := after_app p2 r1; have bw2 := p6 w w.heap.size (Nat.le_refl _) (by omega) r3; clear p2 p4 p6)
          go_roundw
          case rel => exact ⟨k + 1, v2, false, out ++ [t], by omega, by go_num, rfl, rfl, by simp; omega, ow2, by have e := R2.out; rw [E.out] at e; rw [← e]; simp, bw2⟩
          case measure => simp [intOf]; omega
    · have hke : k = l.length := by omega
      subst hke
      have E := Lib.hid (insRest_end l s put)
      cases put with
      | true =>
        go_wp2
        go_ret
        exact ⟨_, rfl, by have e := R2.out; rw [E.out] at e; simp at e; rw [← e]; exact r1, r3⟩
      | false =>
        go_wp2_with (at_builtin; refine wpl_app_str rfl (.tmp 37) (.tmp 39) rfl w.heap.size _ _ rfl (r1.mono (ext_alloc _ _)) wr.heap.size _ rfl (by simp; rfl) (by omega) (by simp; omega) ?_; intro v2 w2 ow2 p2 p3; obtain ⟨p4, zw2, p6⟩ := after_app p2 r1; have bw2 := p6 w w.heap.size (Nat.le_refl _) (by omega) r3; clear p2 p4 p6)
        go_ret
        exact ⟨_, rfl, by have e := R2.out; rw [E.out] at e; simp at e; rw [← e]; exact ow2, bw2⟩
end Go.Proofs.YtmiokpcolpcbaaaGreatDoor
