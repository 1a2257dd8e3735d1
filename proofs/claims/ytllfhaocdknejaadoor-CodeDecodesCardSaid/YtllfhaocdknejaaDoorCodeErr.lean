/- The walks of code.found and code.Decode where the payloads at hand are refused by their numbers. -/
import Derived.Test.YtllfhaocdknejaaDoorHand
namespace Go.Proofs.YtllfhaocdknejaaDoor
open Go.RowKit
attribute [local go_sem ↓] Go.wp_at_zero Go.wp_at_succ
set_option maxRecDepth 100000 in
set_option maxHeartbeats 4000000 in
theorem found_err (k n : Int) (vh vp : Value) (hv : List Int) (ps : List ByteArray) (w : World) (E : Int) (hh : SeqAt IsInt w.heap vh hv) (hp : TextsAt w.heap vp ps) (hi : ∀ x ∈ hv, inI x) (hE : handE k n hv ps.length = E) (h0 : E ≠ 0) :
    Calls Tryd.prog 16 #[.agg #[.int .i64 k, .int .i64 n], vh, vp] w fun e w' => e = .returned (.tuple #[.string ⟨#[]⟩, .slice none 0 0, .int .i64 E]) ∧ Keeps w w' := by
  have HH := Lib.hid hh
  have HP := Lib.hid hp
  have HHV := Lib.hid (fun wx (hx : Keeps (w.alloc (.cells #[.int .i64 k, .int .i64 n] 23)) wx) => hand_any k n vh vp hv ps wx (SeqAt.keeps HH.out ((kal w _).trans hx)) (SeqAt.keeps HP.out ((kal w _).trans hx)) hi)
  clear hh hp hi
  go_enter Tryd.func16, Tryd.ntmps16
  go_wp2_with fail
  refine Calls.mono (HHV.out _ (keeps_refl _)) ?_
  rintro e w1 ⟨v, rfl, _, hk1⟩
  rw [hE]
  have HK1 : Hid (Keeps w w1) := (kal w _).trans hk1
  have h1 : (E != 0) = true := bne_iff_ne.2 h0
  clear hk1 hE h0
  go_wp2_with fail
  go_ret3
  exact ⟨rfl, HK1.out⟩
set_option maxRecDepth 100000 in
set_option maxHeartbeats 4000000 in
theorem decode_err (k n : Int) (vh vp : Value) (hv : List Int) (ps : List ByteArray) (w : World) (E : Int) (hh : SeqAt IsInt w.heap vh hv) (hp : TextsAt w.heap vp ps) (hi : ∀ x ∈ hv, inI x) (hE : handE k n hv ps.length = E) (h0 : E ≠ 0) :
    Calls Tryd.prog 9 #[.agg #[.int .i64 k, .int .i64 n], vh, vp] w fun e w' => e = .returned (.tuple #[.string ⟨#[]⟩, .int .i64 E]) ∧ Keeps w w' := by
  have HH := Lib.hid hh
  have HP := Lib.hid hp
  have HHV := Lib.hid (fun wx (hx : Keeps (w.alloc (.cells #[.int .i64 k, .int .i64 n] 23)) wx) => found_err k n vh vp hv ps wx E (SeqAt.keeps HH.out ((kal w _).trans hx)) (SeqAt.keeps HP.out ((kal w _).trans hx)) hi hE h0)
  clear hh hp hi hE h0
  go_enter Tryd.func9, Tryd.ntmps9
  go_wp2_with fail
  refine Calls.mono (HHV.out _ (keeps_refl _)) ?_
  rintro e w1 ⟨rfl, hk1⟩
  have HK1 : Hid (Keeps w w1) := (kal w _).trans hk1
  clear hk1
  go_wp2_with fail
  go_ret2
  exact ⟨rfl, HK1.out⟩
end Go.Proofs.YtllfhaocdknejaaDoor
