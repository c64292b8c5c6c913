/- The walks of the laws FdsPlays and FdsEnds. -/
import Derived.Test.YtdiginkpclbmdaaSame
namespace Go.Proofs.Ytdiginkpclbmdaa
open Go.RowKit
attribute [local go_sem] cell_alloc_some frozen_alloc_some
set_option maxRecDepth 100000 in
set_option maxHeartbeats 1000000 in
theorem plays_all (w : World) (v : Value) (ds : List Deed) (hd : Deeds w v ds) :
    Calls Try.prog 6 #[v] w fun e w' => e = .returned (.bool true) ∧ Keep none_ w w' := by
  have H0 := Lib.hid (play_any w v ds hd)
  clear hd
  go_enter Try.func6, Try.ntmps6
  go_wp2_with fail
  refine H0.out.mono ?_
  rintro e w1 ⟨T, R, rfl, h1⟩
  have H1 := Lib.hid h1
  have HL := Lib.hid (live_any w1)
  clear h1 H0
  go_wp2_with fail
  refine HL.out.mono ?_
  rintro e w2 ⟨rfl, hk2⟩
  have h2 := H1.out.keep0 hk2
  have HK := Lib.hid h2.keep
  have HS := Lib.hid (same_all h2)
  clear h2 hk2 H1 HL
  go_wp2_with fail
  refine HS.out.mono ?_
  rintro e w3 ⟨rfl, hk3⟩
  have HK3 := Lib.hid (HK.out.trans hk3)
  clear hk3
  go_wp2
  go_ret
  exact ⟨rfl, HK3.out⟩
end Go.Proofs.Ytdiginkpclbmdaa
