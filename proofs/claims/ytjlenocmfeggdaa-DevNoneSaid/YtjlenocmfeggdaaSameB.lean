/- The walk of same. -/
import Derived.Test.YtjlenocmfeggdaaSameA
namespace Go.Proofs.Ytjlenocmfeggdaa
open Go.RowKit
attribute [local go_sem] cell_alloc_some frozen_alloc_some
section
variable {a w : World} {D M R Q : Nat} {S S2 : St} {G : Nat → Prop}
set_option maxRecDepth 100000 in
set_option maxHeartbeats 1000000 in
theorem same_all (h : Two a w D M R Q S S G) :
    Calls Try.prog 28 #[.agg (xcells D M R Q).toArray] w fun e w' => e = .returned (.bool true) ∧ Keep none_ w w' := by
  obtain ⟨w0, hw0⟩ : ∃ w0, w0 = w.alloc (.cells (xcells D M R Q).toArray 29) := ⟨_, rfl⟩
  have hk0 : Keep none_ w w0 := by rw [hw0]; exact (Keep.refl _ w).alloc _
  have HB : Hid (∀ {V : World}, Keep none_ w0 V → Blk V w.heap.size 29 (xcells D M R Q)) := fun hk => (show Blk w0 w.heap.size 29 (xcells D M R Q) by rw [hw0]; exact Blk.new w 29 _).keep hk id
  have HH := Lib.hid (h.keep0 hk0)
  have HI := Lib.hid h.one.inv
  have HK0 := Lib.hid hk0
  have HW0 := Lib.hid hw0
  clear h hk0 hw0
  unfold xcells at HB HW0 ⊢
  go_enter Try.func28, Try.ntmps28
  go_wp2_with fail
  rw [← HW0.out]
  go_loopw [3] (fun x wr => ∃ p : Int, -1 ≤ p ∧ p ≤ S.ns + 1 ∧ x = .int .i64 p ∧ Hid (Keep none_ w0 wr)) (fun x _ => (S.ns + 1 - intOf x).toNat)
  case atStart => exact ⟨-1, by omega, by omega, rfl, Keep.refl _ _⟩
  case round =>
    obtain ⟨p, hp0, hp7, rfl, HK⟩ := hrel
    have hns := HI.out.ns1
    have hns0 := HI.out.ns0
    have c2 := (HB.out HK.out).cell_of (i := 2) rfl
    have HT := Lib.hid (HH.out.keep0 HK.out)
    have HA := Lib.hid HT.out.sizeR
    go_wp2_with fail
    refine HA.out.mono ?_
    rintro e w1 ⟨rfl, hk1⟩
    have HK1 := Lib.hid (HK.out.trans hk1)
    have HT1 := Lib.hid (HT.out.keep0 hk1)
    clear hk1 HA c2 HK HT
    by_cases h6 : p ≤ S.ns
    · have c0 := (HB.out HK1.out).cell_of (i := 0) rfl
      have HA := Lib.hid (HT1.out.secT p)
      obtain ⟨er, her⟩ : ∃ er, er = secE S p := ⟨_, rfl⟩
      obtain ⟨ll, hll⟩ : ∃ ll, ll = secL S p := ⟨_, rfl⟩
      rw [← her, ← hll] at HA
      have HER := Lib.hid her
      have HLL := Lib.hid hll
      clear her hll
      go_wp2_with fail
      refine HA.out.mono ?_
      rintro e w2 ⟨⟨u, rfl, hu⟩, hk2⟩
      have HK2 := Lib.hid (HK1.out.trans hk2)
      have HT2 := Lib.hid (HT1.out.keep0 hk2)
      have c2 := (HB.out HK2.out).cell_of (i := 2) rfl
      have HB2 := HT2.out.secR p
      rw [← HER.out, ← HLL.out] at HB2
      replace HB2 := Lib.hid HB2
      have HU := Lib.hid hu
      clear hk2 HA c0 HK1 HT1 hu
      go_wp2_with fail
      refine HB2.out.mono ?_
      rintro e w3 ⟨⟨u2, rfl, hu2⟩, hk3⟩
      have HK3 := Lib.hid (HK2.out.trans hk3)
      have cv1 := conv (HU.out.keep0 hk3)
      have cv2 := conv hu2
      obtain ⟨s, hs⟩ : ∃ s : ByteArray, s = ⟨ll.toArray⟩ := ⟨_, rfl⟩
      rw [← hs] at cv1 cv2
      clear hk3 HU hu2 c2 HT2 HK2 HB2 hs HER HLL
      have eer : (er == er) = true := by simp
      go_wp2
      go_roundw
      case rel => exact ⟨p + 1, by omega, by omega, by go_num, HK3⟩
      case measure => simp [intOf]; omega
    · clear hp7
      have h6' : ¬ p ≤ (S.ns : Int) := h6
      go_wp2_with fail
      go_loopw [8] (fun x wr => ∃ p : Nat, p ≤ S.nf ∧ x = .int .i64 p ∧ Hid (Keep none_ w0 wr)) (fun x _ => (S.nf - intOf x).toNat)
      case atStart => exact ⟨0, by omega, rfl, HK1⟩
      case round =>
        obtain ⟨p, hp7, rfl, HK⟩ := hrel
        have hnf := HI.out.nf1
        have hnf0 := HI.out.nf0
        have c3 := (HB.out HK.out).cell_of (i := 3) rfl
        have HT := Lib.hid (HH.out.keep0 HK.out)
        have HA := Lib.hid HT.out.framesR
        go_wp2_with fail
        refine HA.out.mono ?_
        rintro e w2 ⟨rfl, hk2⟩
        have HK2 := Lib.hid (HK.out.trans hk2)
        have HT2 := Lib.hid (HT.out.keep0 hk2)
        clear hk2 HA c3 HK HT
        by_cases h6 : p < S.nf
        · have h6' : (p : Int) < (S.nf : Int) := by omega
          have c1 := (HB.out HK2.out).cell_of (i := 1) rfl
          have HA := Lib.hid (HT2.out.frT p)
          obtain ⟨er, her⟩ : ∃ er, er = frE S p := ⟨_, rfl⟩
          obtain ⟨ll, hll⟩ : ∃ ll, ll = frL S p := ⟨_, rfl⟩
          rw [← her, ← hll] at HA
          have HER := Lib.hid her
          have HLL := Lib.hid hll
          clear her hll
          go_wp2_with fail
          refine HA.out.mono ?_
          rintro e w3 ⟨⟨u, rfl, hu⟩, hk3⟩
          have HK3 := Lib.hid (HK2.out.trans hk3)
          have HT3 := Lib.hid (HT2.out.keep0 hk3)
          have c3 := (HB.out HK3.out).cell_of (i := 3) rfl
          have HB2 := HT3.out.frR p
          rw [← HER.out, ← HLL.out] at HB2
          replace HB2 := Lib.hid HB2
          have HU := Lib.hid hu
          clear hk3 HA c1 HK2 HT2 hu
          go_wp2_with fail
          refine HB2.out.mono ?_
          rintro e w4 ⟨⟨u2, rfl, hu2⟩, hk4⟩
          have HK4 := Lib.hid (HK3.out.trans hk4)
          have cv1 := conv (HU.out.keep0 hk4)
          have cv2 := conv hu2
          obtain ⟨s, hs⟩ : ∃ s : ByteArray, s = ⟨ll.toArray⟩ := ⟨_, rfl⟩
          rw [← hs] at cv1 cv2
          clear hk4 HU hu2 c3 HT3 HK3 HB2 hs HER HLL
          have eer : (er == er) = true := by simp
          go_wp2
          go_roundw
          case rel => exact ⟨p + 1, by omega, by go_num, HK4⟩
          case measure => simp [intOf]; omega
        · have h6' : ¬ (p : Int) < (S.nf : Int) := by omega
          have b0 := (HB.out HK2.out).cell_of (i := 0) rfl
          have b2 := (HB.out HK2.out).cell_of (i := 2) rfl
          have HD := Lib.hid ((HT2.out.keep0 ((Keep.refl none_ w2).drew)))
          have HKD := Lib.hid (HK2.out.drew)
          have HQ := Lib.hid HI.out.q8
          go_wp2_with fail
          go_region_held3 (fun X => X.cell? ⟨w.heap.size, 0, none⟩ = some (.pointer (some ⟨D, 0, none⟩)) ∧ X.cell? ⟨w.heap.size, 2, none⟩ = some (.pointer (some ⟨R, 0, none⟩)))
            (first | exact ⟨b0, b2⟩ | exact ⟨d0, d2⟩ | exact ⟨f0, f2⟩ | exact ⟨g0, g2⟩ | exact ⟨i0, i2⟩ | exact ⟨j0, j2⟩ | go_keep)
            (first
              | (go_at_call 14; refine Calls.mono (by exact HD.out.waitT) ?_; rintro e w3 ⟨⟨u, rfl, hu⟩, hk⟩; have HU := Lib.hid hu; have HD3 := Lib.hid (HD.out.keep0 hk); have HK3 := Lib.hid (HKD.out.trans hk); have d0 := (HB.out HK3.out).cell_of (i := 0) rfl; have d2 := (HB.out HK3.out).cell_of (i := 2) rfl; clear hk hu)
              | (go_at_call 57; refine Calls.mono (by exact HD3.out.waitR) ?_; rintro e w4 ⟨⟨u2, rfl, hu2⟩, hk⟩; have HU2 : Hid (Reqs w4 0 u S.q) := ownsRow_keep HU.out hk (fun _ _ => id); have HV := Lib.hid hu2; have HD4 := Lib.hid (HD3.out.keep0 hk); have HK4 := Lib.hid (HK3.out.trans hk); have f0 := (HB.out HK4.out).cell_of (i := 0) rfl; have f2 := (HB.out HK4.out).cell_of (i := 2) rfl; clear hk hu2)
              | (go_at_call 56; refine Calls.mono (by exact samereqs_any _ 0 0 _ _ _ S.q HU2.out HV.out (by have := HQ.out; omega)) ?_; rintro e w5 ⟨rfl, hk⟩; have HD5 := Lib.hid (HD4.out.keep0 hk); have HK5 := Lib.hid (HK4.out.trans hk); have g0 := (HB.out HK5.out).cell_of (i := 0) rfl; have g2 := (HB.out HK5.out).cell_of (i := 2) rfl; clear hk)
              | (go_at_call 29; refine Calls.mono (by exact HD5.out.sizeT) ?_; rintro e w6 ⟨rfl, hk⟩; have HD6 := Lib.hid (HD5.out.keep0 hk); have HK6 := Lib.hid (HK5.out.trans hk); have i0 := (HB.out HK6.out).cell_of (i := 0) rfl; have i2 := (HB.out HK6.out).cell_of (i := 2) rfl; clear hk)
              | (go_at_call 52; refine Calls.mono (by exact HD6.out.sizeR) ?_; rintro e w7 ⟨rfl, hk⟩; have HK7 := Lib.hid (HK6.out.trans hk); have j0 := (HB.out HK7.out).cell_of (i := 0) rfl; have j2 := (HB.out HK7.out).cell_of (i := 2) rfl; clear hk))
          have HFIN := Lib.hid (HK0.out.trans HK7.out)
          go_wp2
          go_ret
          exact ⟨rfl, HFIN.out⟩
end
end Go.Proofs.Ytjlenocmfeggdaa
