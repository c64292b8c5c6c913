/- The walk of the law DevPlays. -/
import Derived.Test.YtjlenocmfeggdaaSameB
namespace Go.Proofs.Ytjlenocmfeggdaa
open Go.RowKit
attribute [local go_sem] cell_alloc_some frozen_alloc_some
set_option maxRecDepth 100000 in
set_option maxHeartbeats 1000000 in
theorem plays_all (w : World) (v : Value) (ds : List Deed) (hd : Deeds w v ds) :
    Calls Try.prog 7 #[v] w fun e w' => e = .returned (.bool true) ∧ Keep none_ w w' := by
  have H0 := Lib.hid (play_any w v ds hd)
  clear hd
  go_enter Try.func7, Try.ntmps7
  go_wp2_with fail
  refine H0.out.mono ?_
  rintro e w1 ⟨D, M, R, Q, rfl, h1⟩
  have hk1 : Keep none_ w1 (w1.alloc (.cells (xcells D M R Q).toArray 29)) := (Keep.refl _ w1).alloc _
  have H1 := Lib.hid (h1.keep0 hk1)
  have HL := Lib.hid (live_any (w1.alloc (.cells (xcells D M R Q).toArray 29)))
  have HB := Lib.hid (Blk.new w1 29 (xcells D M R Q))
  clear h1 hk1 H0
  unfold xcells at *
  go_wp2_with fail
  refine HL.out.mono ?_
  rintro e w2 ⟨rfl, hk2⟩
  have h2 := H1.out.keep0 hk2
  have hb := HB.out.keep hk2 id
  have b0 := hb.cell_of (i := 0) rfl
  have b1 := hb.cell_of (i := 1) rfl
  have b2 := hb.cell_of (i := 2) rfl
  have b3 := hb.cell_of (i := 3) rfl
  have HK := Lib.hid h2.keep
  have hs := same_all h2
  unfold xcells at hs
  have HS := Lib.hid hs
  clear h2 hk2 H1 HL hb hs
  go_wp2_with fail
  refine HS.out.mono ?_
  rintro e w3 ⟨rfl, hk3⟩
  have HK3 := Lib.hid (HK.out.trans hk3)
  clear hk3
  go_wp2
  go_ret
  exact ⟨rfl, HK3.out⟩
end Go.Proofs.Ytjlenocmfeggdaa
