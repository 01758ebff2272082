/- number of attack, at a number's text. -/
import Derived.Test.YtmiokpcolpcbaaaGreatDoorObjA
namespace Go.Proofs.YtmiokpcolpcbaaaGreatDoor
open Go.RowKit

set_option maxHeartbeats 1000000 in
theorem number_dec (n : Nat) (hn : n < 1000) (b : Int) (hb : i64ok b) (w : World) (hg : Glob w) :
    Calls Tryz.prog 66 #[st (Lib.decDigits n), .int .i64 b] w fun e w' => e = .returned (.tuple #[.int .i64 n, .bool (decide ((n : Int) < b))]) ∧ Below w.heap.size w w' := by
  have hq : ∀ l : List UInt8, ((⟨l.toArray⟩ : ByteArray).toList == (⟨l.toArray⟩ : ByteArray).toList) = true := fun l => by simp
  go_enter Tryz.func66, Tryz.ntmps66
  go_wp2_with fail
  refine (atoi_any n hn _).mono ?_
  rintro e w1 ⟨rfl, b1⟩
  have hg1 := hg.mono b1
  go_wp2_with fail
  refine (num_any n (by omega) _ hg1).mono ?_
  rintro e w2 ⟨rfl, b2⟩
  have hz := b1.size
  go_wp2_with fail
  refine bodyPost_ret (v := .tuple #[.int .i64 n, .bool (decide ((n : Int) < b))]) (by simp [results, Tryz.results66, go_sem]) rfl ⟨rfl, b1.trans (b2.mono hz)⟩
end Go.Proofs.YtmiokpcolpcbaaaGreatDoor
