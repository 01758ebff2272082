/- slices.Clone at a slice of strings that the call owns. -/
import Derived.Test.YtmiokpcolpcbaaaGreatDoorLib
namespace Go.Proofs.YtmiokpcolpcbaaaGreatDoor
open Go.RowKit
theorem clone_any (base : Nat) (v : Value) (l : List Str) (w : World) (h : OwnsS w base v l) (hl : l.length ≤ 1000000) :
    Calls Tryz.prog 36 #[v] w fun e w' => ∃ av, e = .returned av ∧ OwnsS w' w.heap.size av l ∧ Below w.heap.size w w' := by
  rcases h.2 with ⟨rfl, h0⟩ | ⟨g, cap, cur, rfl, hbase, hb, h1, h2, h3, h4⟩
  · obtain rfl : l = [] := List.eq_nil_of_length_eq_zero h0
    refine (Tryz.slices_Clone_string_nil 0 0 w).mono fun e w' ⟨h1, h2⟩ => ⟨_, h1, OwnsS.nil _ _, by rw [h2]; exact Below.refl _ _⟩
  · have hc := h.strs.cells
    refine (Tryz.slices_Clone_string g 0 l.length cap (l.map fun t => (⟨t.toArray⟩ : ByteArray)) w (by simp) (by omega) (fun j hj => ?_)).mono fun e w' ⟨av, h5, h6, h7, h8⟩ => ⟨av, h5, ?_, h8⟩
    · refine hc j _ ?_
      rw [List.getD_eq_getElem?_getD, List.getElem?_eq_getElem hj]; rfl
    · unfold OwnsS
      rw [List.take_of_length_le (by simp), List.map_map] at h6
      exact h6
end Go.Proofs.YtmiokpcolpcbaaaGreatDoor
