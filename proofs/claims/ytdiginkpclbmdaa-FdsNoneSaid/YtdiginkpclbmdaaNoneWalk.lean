/- The walk of the law FdsNone. -/
import Derived.Test.YtdiginkpclbmdaaNil
namespace Go.Proofs.Ytdiginkpclbmdaa
open Go.RowKit
attribute [local go_sem] cell_alloc_some frozen_alloc_some
theorem deed_at {w0 W : World} {b : Nat} {d : Deed} (h : Blk w0 b 32 (dcells d)) (hk : Keep none_ w0 W) :
    W.cell? ⟨b, 1, none⟩ = some (.int .i64 d.p) ∧ W.cell? ⟨b, 2, none⟩ = some (.int .i64 d.q) ∧ W.cell? ⟨b, 3, none⟩ = some (.int .i64 d.k) ∧
      W.cell? ⟨b, 4, none⟩ = some (.int .u8 d.o.kind) ∧ W.cell? ⟨b, 5, none⟩ = some (.int .i64 d.o.ref) ∧ W.cell? ⟨b, 6, none⟩ = some (.int .i64 d.o.pos) := by
  have hb := h.keep hk id
  exact ⟨hb.cell_of rfl, hb.cell_of rfl, hb.cell_of rfl, hb.cell_of rfl, hb.cell_of rfl, hb.cell_of rfl⟩
theorem zero_at {w0 W : World} {b : Nat} (h : Blk w0 b 30 (opc zero3)) (hk : Keep none_ w0 W) :
    W.cell? ⟨b, 0, none⟩ = some (.int .u8 0) ∧ W.cell? ⟨b, 1, none⟩ = some (.int .i64 0) ∧ W.cell? ⟨b, 2, none⟩ = some (.int .i64 0) := by
  have hb := h.keep hk id
  exact ⟨hb.cell_of rfl, hb.cell_of rfl, hb.cell_of rfl⟩
set_option maxRecDepth 100000 in
set_option maxHeartbeats 2000000 in
theorem none_all (w : World) (d : Deed) :
    Calls Try.prog 8 #[.agg (dcells d).toArray] w fun e w' => e = .returned (.bool true) ∧ Keep none_ w w' := by
  obtain ⟨op, p, q, k, o⟩ := d
  have hb := Blk.new w 32 (dcells ⟨op, p, q, k, o⟩)
  have HB := Lib.hid hb
  have H1 := Lib.hid (nil_end (w.alloc (.cells (dcells ⟨op, p, q, k, o⟩).toArray 32)) p)
  obtain ⟨d1, d2, d3, d4, d5, d6⟩ := deed_at hb (Keep.refl _ _)
  simp only at d1 d2 d3 d4 d5 d6
  have HK0 : Hid (Keep none_ w (w.alloc (.cells (dcells ⟨op, p, q, k, o⟩).toArray 32))) := (Keep.refl _ w).alloc _
  clear hb
  unfold dcells
  go_enter Try.func8, Try.ntmps8
  go_wp2_with fail
  refine Calls.mono (by exact H1.out) ?_
  rintro e w1 ⟨rfl, hk⟩
  have K1 := Lib.hid hk
  clear hk d1 d2 d3 d4 d5 d6 H1
  obtain ⟨d1, d2, d3, d4, d5, d6⟩ := deed_at HB.out K1.out
  simp only at d1 d2 d3 d4 d5 d6
  have H := Lib.hid (nil_open w1 p o)
  unfold opv at H
  go_wp2_with fail
  refine Calls.mono (by exact H.out) ?_
  rintro e w2 ⟨rfl, hk⟩
  have K2 := Lib.hid (K1.out.trans hk)
  clear hk H d1 d2 d3 d4 d5 d6 
  obtain ⟨d1, d2, d3, d4, d5, d6⟩ := deed_at HB.out K2.out
  simp only at d1 d2 d3 d4 d5 d6
  have H := Lib.hid (nil_dup w2 p k)
  go_wp2_with fail
  refine Calls.mono (by exact H.out) ?_
  rintro e w3 ⟨rfl, hk⟩
  have K3 := Lib.hid (K2.out.trans hk)
  clear hk H d1 d2 d3 d4 d5 d6 
  obtain ⟨d1, d2, d3, d4, d5, d6⟩ := deed_at HB.out K3.out
  simp only at d1 d2 d3 d4 d5 d6
  have H := Lib.hid (nil_close w3 p k)
  unfold opv zero3 at H
  go_wp2_with fail
  refine Calls.mono (by exact H.out) ?_
  rintro e w4 ⟨rfl, hk⟩
  have K4 := Lib.hid (K3.out.trans hk)
  clear hk H d1 d2 d3 d4 d5 d6 
  have HX0 : Hid (Blk (w4.alloc (.cells #[.int .u8 0, .int .i64 0, .int .i64 0] 30)) w4.heap.size 30 (opc zero3)) := Blk.new w4 30 (opc zero3)
  have KX0_5 := Lib.hid (Keep.refl none_ (w4.alloc (.cells #[.int .u8 0, .int .i64 0, .int .i64 0] 30)))
  have K5 := Lib.hid (K4.out.alloc (.cells #[.int .u8 0, .int .i64 0, .int .i64 0] 30))
  obtain ⟨d1, d2, d3, d4, d5, d6⟩ := deed_at HB.out K5.out
  simp only at d1 d2 d3 d4 d5 d6
  obtain ⟨x00, x01, x02⟩ := zero_at HX0.out KX0_5.out
  have H := Lib.hid (nil_get (w4.alloc (.cells #[.int .u8 0, .int .i64 0, .int .i64 0] 30)) p k)
  unfold opv zero3 at H
  go_wp2_with fail
  refine Calls.mono (by exact H.out) ?_
  rintro e w6 ⟨rfl, hk⟩
  have K6 := Lib.hid (K5.out.trans hk)
  have KX0_6 := Lib.hid (KX0_5.out.trans hk)
  clear hk H d1 d2 d3 d4 d5 d6 x00 x01 x02 
  have HX1 : Hid (Blk (w6.alloc (.cells #[.int .u8 0, .int .i64 0, .int .i64 0] 30)) w6.heap.size 30 (opc zero3)) := Blk.new w6 30 (opc zero3)
  have KX1_7 := Lib.hid (Keep.refl none_ (w6.alloc (.cells #[.int .u8 0, .int .i64 0, .int .i64 0] 30)))
  have K7 := Lib.hid (K6.out.alloc (.cells #[.int .u8 0, .int .i64 0, .int .i64 0] 30))
  have KX0_7 := Lib.hid (KX0_6.out.alloc (.cells #[.int .u8 0, .int .i64 0, .int .i64 0] 30))
  obtain ⟨d1, d2, d3, d4, d5, d6⟩ := deed_at HB.out K7.out
  simp only at d1 d2 d3 d4 d5 d6
  obtain ⟨x00, x01, x02⟩ := zero_at HX0.out KX0_7.out
  obtain ⟨x10, x11, x12⟩ := zero_at HX1.out KX1_7.out
  have H := Lib.hid (live_any (w6.alloc (.cells #[.int .u8 0, .int .i64 0, .int .i64 0] 30)))
  go_wp2_with fail
  refine Calls.mono (by exact H.out) ?_
  rintro e w8 ⟨rfl, hk⟩
  have K8 := Lib.hid (K7.out.trans hk)
  have KX0_8 := Lib.hid (KX0_7.out.trans hk)
  have KX1_8 := Lib.hid (KX1_7.out.trans hk)
  clear hk H d1 d2 d3 d4 d5 d6 x00 x01 x02 x10 x11 x12 
  obtain ⟨d1, d2, d3, d4, d5, d6⟩ := deed_at HB.out K8.out
  simp only at d1 d2 d3 d4 d5 d6
  obtain ⟨x00, x01, x02⟩ := zero_at HX0.out KX0_8.out
  obtain ⟨x10, x11, x12⟩ := zero_at HX1.out KX1_8.out
  have H := Lib.hid (nil_begin w8 p)
  go_wp2_with fail
  refine Calls.mono (by exact H.out) ?_
  rintro e w9 ⟨rfl, hk⟩
  have K9 := Lib.hid (K8.out.trans hk)
  have KX0_9 := Lib.hid (KX0_8.out.trans hk)
  have KX1_9 := Lib.hid (KX1_8.out.trans hk)
  clear hk H d1 d2 d3 d4 d5 d6 x00 x01 x02 x10 x11 x12 
  obtain ⟨d1, d2, d3, d4, d5, d6⟩ := deed_at HB.out K9.out
  simp only at d1 d2 d3 d4 d5 d6
  obtain ⟨x00, x01, x02⟩ := zero_at HX0.out KX0_9.out
  obtain ⟨x10, x11, x12⟩ := zero_at HX1.out KX1_9.out
  have H := Lib.hid (nil_fork w9 p q)
  go_wp2_with fail
  refine Calls.mono (by exact H.out) ?_
  rintro e w10 ⟨rfl, hk⟩
  have K10 := Lib.hid (K9.out.trans hk)
  have KX0_10 := Lib.hid (KX0_9.out.trans hk)
  have KX1_10 := Lib.hid (KX1_9.out.trans hk)
  clear hk H d1 d2 d3 d4 d5 d6 x00 x01 x02 x10 x11 x12 
  obtain ⟨d1, d2, d3, d4, d5, d6⟩ := deed_at HB.out K10.out
  simp only at d1 d2 d3 d4 d5 d6
  obtain ⟨x00, x01, x02⟩ := zero_at HX0.out KX0_10.out
  obtain ⟨x10, x11, x12⟩ := zero_at HX1.out KX1_10.out
  have H := Lib.hid (nil_move w10 p k 0)
  go_wp2_with fail
  refine Calls.mono (by exact H.out) ?_
  rintro e w11 ⟨rfl, hk⟩
  have K11 := Lib.hid (K10.out.trans hk)
  have KX0_11 := Lib.hid (KX0_10.out.trans hk)
  have KX1_11 := Lib.hid (KX1_10.out.trans hk)
  clear hk H d1 d2 d3 d4 d5 d6 x00 x01 x02 x10 x11 x12 
  obtain ⟨d1, d2, d3, d4, d5, d6⟩ := deed_at HB.out K11.out
  simp only at d1 d2 d3 d4 d5 d6
  obtain ⟨x00, x01, x02⟩ := zero_at HX0.out KX0_11.out
  obtain ⟨x10, x11, x12⟩ := zero_at HX1.out KX1_11.out
  have H := Lib.hid (nil_list w11 p)
  go_wp2_with fail
  refine Calls.mono (by exact H.out) ?_
  rintro e w12 ⟨rfl, hk⟩
  have K12 := Lib.hid (K11.out.trans hk)
  have KX0_12 := Lib.hid (KX0_11.out.trans hk)
  have KX1_12 := Lib.hid (KX1_11.out.trans hk)
  clear hk H d1 d2 d3 d4 d5 d6 x00 x01 x02 x10 x11 x12 
  obtain ⟨d1, d2, d3, d4, d5, d6⟩ := deed_at HB.out K12.out
  simp only at d1 d2 d3 d4 d5 d6
  obtain ⟨x00, x01, x02⟩ := zero_at HX0.out KX0_12.out
  obtain ⟨x10, x11, x12⟩ := zero_at HX1.out KX1_12.out
  have H := Lib.hid (nil_room w12 p)
  go_wp2_with fail
  refine Calls.mono (by exact H.out) ?_
  rintro e w13 ⟨rfl, hk⟩
  have K13 := Lib.hid (K12.out.trans hk)
  have KX0_13 := Lib.hid (KX0_12.out.trans hk)
  have KX1_13 := Lib.hid (KX1_12.out.trans hk)
  clear hk H d1 d2 d3 d4 d5 d6 x00 x01 x02 x10 x11 x12 
  obtain ⟨d1, d2, d3, d4, d5, d6⟩ := deed_at HB.out K13.out
  simp only at d1 d2 d3 d4 d5 d6
  obtain ⟨x00, x01, x02⟩ := zero_at HX0.out KX0_13.out
  obtain ⟨x10, x11, x12⟩ := zero_at HX1.out KX1_13.out
  have H := Lib.hid (nil_same w13 p k q k)
  go_wp2_with fail
  refine Calls.mono (by exact H.out) ?_
  rintro e w14 ⟨rfl, hk⟩
  have K14 := Lib.hid (K13.out.trans hk)
  have KX0_14 := Lib.hid (KX0_13.out.trans hk)
  have KX1_14 := Lib.hid (KX1_13.out.trans hk)
  clear hk H d1 d2 d3 d4 d5 d6 x00 x01 x02 x10 x11 x12 
  obtain ⟨d1, d2, d3, d4, d5, d6⟩ := deed_at HB.out K14.out
  simp only at d1 d2 d3 d4 d5 d6
  obtain ⟨x00, x01, x02⟩ := zero_at HX0.out KX0_14.out
  obtain ⟨x10, x11, x12⟩ := zero_at HX1.out KX1_14.out
  have H := Lib.hid (nil_copy w14)
  go_wp2_with fail
  refine Calls.mono (by exact H.out) ?_
  rintro e w15 ⟨rfl, hk⟩
  have K15 := Lib.hid (K14.out.trans hk)
  have KX0_15 := Lib.hid (KX0_14.out.trans hk)
  have KX1_15 := Lib.hid (KX1_14.out.trans hk)
  clear hk H d1 d2 d3 d4 d5 d6 x00 x01 x02 x10 x11 x12 
  obtain ⟨d1, d2, d3, d4, d5, d6⟩ := deed_at HB.out K15.out
  simp only at d1 d2 d3 d4 d5 d6
  obtain ⟨x00, x01, x02⟩ := zero_at HX0.out KX0_15.out
  obtain ⟨x10, x11, x12⟩ := zero_at HX1.out KX1_15.out
  go_wp2
  go_ret
  exact ⟨rfl, HK0.out.trans K15.out⟩
end Go.Proofs.Ytdiginkpclbmdaa
