/- read, flat, parts of attack; Flat, parts of the reference. -/
import Derived.Test.YtmiokpcolpcbaaaGreatDoorLib
import Derived.Test.YtmiokpcolpcbaaaGreatDoorPureL
import Derived.Test.YtmiokpcolpcbaaaGreatDoorCutA
import Derived.Test.YtmiokpcolpcbaaaGreatDoorReadR
namespace Go.Proofs.YtmiokpcolpcbaaaGreatDoor
open Go.RowKit

/-- A text of ASCII bytes. -/
def Asc (s : Str) : Prop := ∀ c ∈ s, c.toNat < 128

set_option maxHeartbeats 1000000 in
theorem read_att (s : Str) (w : World) (hg : Glob w) (hs : s.length ≤ 1000000) (ha : Asc s) :
    Calls Tryz.prog 61 #[st s] w fun e w' => ∃ av, e = .returned (.agg #[st (rd s).1, av]) ∧ OwnsS w' w.heap.size av (rd s).2 ∧ Below w.heap.size w w' := by
  have hex := ext_mk
  have hg1 : Glob (w.alloc (.cells #[st [], .slice none 0 0] 112)) := hg.mono (ext_alloc _ _)
  have HC := Lib.hid (cut_paren s)
  by_cases hk : headLen s < s.length
  · have HC' : Hid (Lib.cut s [40] = (s.take (headLen s), s.drop (headLen s + 1), true)) := by have := HC.out; rw [if_pos hk] at this; exact this
    clear HC
    have hl2 : (s.drop (headLen s + 1)).length ≤ 1000000 := by simp; omega
    by_cases hf : Lib.hasSuffix (s.drop (headLen s + 1)) [41] = true
    · obtain ⟨h1, h2⟩ := rd_of_shut hk hf
      have H1 := Lib.hid h1; clear h1
      have hasc : ∀ c ∈ (s.drop (headLen s + 1)).take ((s.drop (headLen s + 1)).length - 1), c.toNat < 128 := fun c hc => ha c (List.mem_of_mem_drop (List.mem_of_mem_take hc))
      have HD := Lib.hid (rfl : s.drop (headLen s + 1) = s.drop (headLen s + 1))
      generalize hr : s.drop (headLen s + 1) = r at HC' h2 hl2 hf hasc H1
      have HR := Lib.hid hr; clear hr HD
      generalize hu : s.take (headLen s) = u at HC' H1
      have HU := Lib.hid hu; clear hu
      go_enter Tryz.func61, Tryz.ntmps61
      go_wp2_with fail
      refine (cut_any s [40] _ hg1 (by omega)).mono ?_
      rintro e w' ⟨rfl, n, rfl⟩
      rw [HC'.out]
      have hlr : (1 : Int) ≤ r.length := by omega
      go_wp2_with fail
      refine (suffix_any r [41] _ (by omega)).mono ?_
      rintro e w' ⟨rfl, rfl⟩
      rw [hf]
      go_wp2_with fail
      refine (cut_att _ _ (by simp; omega) hasc).mono ?_
      rintro e w' ⟨av, rfl, hav, hb⟩
      have c0 : w'.cell? ⟨w.heap.size, 0, none⟩ = some (st []) := (hb.cell (p := ⟨w.heap.size, 0, none⟩) (by simp)).trans (by simp)
      have c1 : w'.cell? ⟨w.heap.size, 1, none⟩ = some (.slice none 0 0) := (hb.cell (p := ⟨w.heap.size, 1, none⟩) (by simp)).trans (by simp)
      have f0 : w'.frozen? ⟨w.heap.size, 0, none⟩ = false := (hb.frozen (p := ⟨w.heap.size, 0, none⟩) (by simp)).trans (by simp)
      have f1 : w'.frozen? ⟨w.heap.size, 1, none⟩ = false := (hb.frozen (p := ⟨w.heap.size, 1, none⟩) (by simp)).trans (by simp)
      obtain ⟨a, cap, hav2, _⟩ := hav.strs.split
      subst hav2
      have hbb := Lib.hid hb
      have hav' := Lib.hid hav
      clear hb hav
      go_wp2
      refine bodyPost_ret (v := .agg #[st u, .slice a (cutS (r.take (r.length - 1))).length cap]) (by simp [results, Tryz.results61, go_sem, c0, c1]) rfl ⟨.slice a (cutS (r.take (r.length - 1))).length cap, ?_⟩
      rw [H1.out]
      exact ⟨rfl, (((hav'.out.le (base' := w.heap.size + 1) (by simp)).set_below _ (by simp) _).set_below _ (by simp) _).le (by omega), (by repeat (first | exact Below.refl _ _ | exact hbb.out | refine Below.trans ?_ (Below.mono hbb.out (by first | (simp; done) | (simp; omega) | omega)) | refine Below.setCell ?_ (by first | (simp; done) | (simp; omega) | (have hszq := (hbb.out).size; simp at hszq ⊢; omega)) _ | refine Below.alloc ?_ (by first | (simp; done) | (simp; omega) | (have hszq := (hbb.out).size; simp at hszq ⊢; omega)) _ | refine below_drewN ?_ _ | refine Below.drew ?_))⟩
    · have hf' : Lib.hasSuffix (s.drop (headLen s + 1)) [41] = false := by simpa using hf
      have H1 := Lib.hid (rd_of_open hk hf')
      generalize hr : s.drop (headLen s + 1) = r at HC' hl2 hf'
      have HR := Lib.hid hr; clear hr hf
      generalize hu : s.take (headLen s) = u at HC'
      have HU := Lib.hid hu; clear hu
      go_enter Tryz.func61, Tryz.ntmps61
      go_wp2_with fail
      refine (cut_any s [40] _ hg1 (by omega)).mono ?_
      rintro e w' ⟨rfl, n, rfl⟩
      rw [HC'.out]
      go_wp2_with fail
      refine (suffix_any r [41] _ (by omega)).mono ?_
      rintro e w' ⟨rfl, rfl⟩
      rw [hf']
      go_wp2
      refine bodyPost_ret (v := .agg #[st [], .slice none 0 0]) (by simp [results, Tryz.results61, go_sem]) rfl ⟨.slice none 0 0, ?_⟩
      rw [H1.out]
      exact ⟨rfl, OwnsS.nil _ _, (by repeat (first | exact Below.refl _ _ | refine Below.setCell ?_ (by first | (simp; done) | (simp; omega)) _ | refine Below.alloc ?_ (by first | (simp; done) | (simp; omega)) _ | refine below_drewN ?_ _ | refine Below.drew ?_))⟩
  · have HC' : Hid (Lib.cut s [40] = (s, [], false)) := by have := HC.out; rw [if_neg hk] at this; exact this
    clear HC
    have H1 := Lib.hid (rd_of_no hk)
    go_enter Tryz.func61, Tryz.ntmps61
    go_wp2_with fail
    refine (cut_any s [40] _ hg1 (by omega)).mono ?_
    rintro e w' ⟨rfl, n, rfl⟩
    rw [HC'.out]
    go_wp2
    refine bodyPost_ret (v := .agg #[st [], .slice none 0 0]) (by simp [results, Tryz.results61, go_sem]) rfl ⟨.slice none 0 0, ?_⟩
    rw [H1.out]
    exact ⟨rfl, OwnsS.nil _ _, (by repeat (first | exact Below.refl _ _ | refine Below.setCell ?_ (by first | (simp; done) | (simp; omega)) _ | refine Below.alloc ?_ (by first | (simp; done) | (simp; omega)) _ | refine below_drewN ?_ _ | refine Below.drew ?_))⟩
end Go.Proofs.YtmiokpcolpcbaaaGreatDoor
