/- Fork of a disk. -/
import Derived.Test.YtjlenocmfeggdaaImpQ
import Derived.Test.YtjlenocmfeggdaaToolsC
import Derived.Deep.RegionHeld3
namespace Go.Proofs.Ytjlenocmfeggdaa
open Go.RowKit
attribute [local go_sem] cell_alloc_some frozen_alloc_some
theorem size44 : (Try.prog.info? 44).map (·.size) = some 5 := by kernel_rfl
theorem run_make_reqs (n : Nat) (hn : n ≤ 8) : ∃ Z : List Value, Z.length = n * 5 ∧ ∀ w : World, (Instr.makeSlice 38 (.int .i64 (n : Int)) (.int .i64 (n : Int))).run Try.prog w = .ok (.slice (some ⟨w.heap.size, 0, none⟩) n n) (w.alloc (.cells Z.toArray 44)) := by
  obtain ⟨i0, hi, hz0, hz1, hz2⟩ := info_parts info44
  refine ⟨(madeCells (Value.agg #[.int .u32 0, .bool false, .int .i64 0, .int .i64 0, .int .u8 0]).cells (n * 5)).toList, by rw [Array.length_toList, size_madeCells], fun w => ?_⟩
  have := run_make (P := Try.prog) w 38 44 i0 _ Try.underlying38 hi hz0 .i64 .i64 n n (by omega) (Int.le_refl _) (by rw [hz2]; omega) (by omega)
  rw [hz1] at this
  simpa only [Int.toNat_natCast, Array.toArray_toList] using this
section
variable {w w' : World} {D M : Nat} {S : St} {v : Value} {sb fb : Nat} {T : Tl} {F : Nat → Prop}
set_option maxRecDepth 100000 in
set_option maxHeartbeats 2000000 in
theorem diskfork_any (h : RepT w D M S v sb fb T F) :
    Calls Try.prog 30 #[.pointer (some ⟨D, 0, none⟩)] w fun e w' => ∃ D' v' sb' c' rest, e = .returned (.pointer (some ⟨D', 0, none⟩)) ∧ Blk w' D' 92 [v', .int .u32 S.last, .slice (some ⟨sb', 0, none⟩) S.ns c'] ∧ w'.ownsRow w.heap.size 44 5 v' S.q.length (flatQ S.q) ∧ Blk w' sb' 98 (gridT S.ns S.sec rest) ∧ w.heap.size ≤ sb' ∧ w.heap.size ≤ D' ∧ Keep none_ w w' := by
  obtain ⟨A, cap, rfl⟩ := h.lenQ
  have hq8 := h.inv.q8
  obtain ⟨Z, hZ, hmk⟩ := run_make_reqs S.q.length hq8
  have HH := Lib.hid (Holds.of_own h.que)
  have HC : Hid (∀ {W : World}, Keep none_ w W → Calls Try.prog 58 #[.slice (some ⟨sb, 0, none⟩) S.ns T.sc] W fun e w' => ∃ g c rest, e = .returned (.slice (some ⟨g, 0, none⟩) S.ns c) ∧ Blk w' g 98 (gridT S.ns S.sec rest) ∧ W.heap.size ≤ g ∧ Keep none_ W w') := fun hk => clone_sectors sb S.ns T.sc S.sec T.rs (h.secs.keep hk id) h.inv.ns0 h.inv.ns1
  have c0 := h.disk.cell_of (i := 0) rfl
  have c1 := h.disk.cell_of (i := 1) rfl
  have c2 := h.disk.cell_of (i := 2) rfl
  have HZ := Lib.hid hZ
  have HO := Lib.hid (flatQ_one S.q)
  have hdl := h.disk.lt
  have hns := h.inv.ns1
  have HFL : Hid ((flatQ S.q).length = S.q.length * 5) := flatQ_len S.q
  clear h hZ
  generalize S.ns = ns at *
  generalize S.last = last at *
  generalize flatQ S.q = fq at *
  generalize S.q.length = n at *
  generalize T.sc = sc at *
  go_enter Try.func30, Try.ntmps30
  go_wp2_with fail
  have HK0 : Hid (Keep none_ w w.drew) := (Keep.refl _ w).drew
  have HKA : Hid (Keep none_ w (w.alloc (.cells Z.toArray 44)).drew) := ((Keep.refl _ w).alloc _).drew
  have HZ1 : Hid (Blk (w.alloc (.cells Z.toArray 44)).drew w.heap.size 44 Z) := (Blk.new w 44 Z).drew
  have a0 := HKA.out.cellS c0 id
  have a1 := HKA.out.cellS c1 id
  have a2 := HKA.out.cellS c2 id
  have b0 := HK0.out.cellS c0 id
  have b1 := HK0.out.cellS c1 id
  have b2 := HK0.out.cellS c2 id
  go_region_held3 (fun W => W.cell? ⟨D, 0, none⟩ = some (.slice A n cap) ∧ W.cell? ⟨D, 1, none⟩ = some (.int .u32 last) ∧ W.cell? ⟨D, 2, none⟩ = some (.slice (some ⟨sb, 0, none⟩) ns sc))
    (first | exact ⟨b0, b1, b2⟩ | exact ⟨a0, a1, a2⟩ | exact ⟨t0, t1, t2⟩ | go_keep)
    (first
      | (go_at_call 58; refine Calls.mono (by exact HC.out HKA.out) ?_; rintro e V ⟨g, c, rest, rfl, hb, hgl, hk⟩; have t0 := hk.cellS a0 id; have t1 := hk.cellS a1 id; have t2 := hk.cellS a2 id; have HB := Lib.hid hb; have HK := Lib.hid (HKA.out.trans hk); have HGL : Hid (w.heap.size ≤ g) := (by have := HKA.out.size; unfold Hid; omega); have HZB := Lib.hid (HZ1.out.keep hk id); have tok : Hid (1 = 1) := rfl; clear hb hk hgl)
      | (go_at_call 58; refine Calls.mono (by exact HC.out HK0.out) ?_; rintro e V ⟨g, c, rest, rfl, hb, hgl, hk⟩; have t0 := hk.cellS b0 id; have t1 := hk.cellS b1 id; have t2 := hk.cellS b2 id; have HB := Lib.hid hb; have HK := Lib.hid (HK0.out.trans hk); have HGL : Hid (w.heap.size ≤ g) := (by have := HK0.out.size; unfold Hid; omega); have tok : Hid (2 = 2) := rfl; clear hb hk hgl))
  all_goals (clear a0 a1 a2 b0 b1 b2)
  all_goals go_wp2_with fail
  · have hkW : Keep none_ w (V.alloc (.cells #[.slice (some ⟨w.heap.size, 0, none⟩) n n, .int .u32 last, .slice (some ⟨g, 0, none⟩) ns c] 92)) := HK.out.trans ((Keep.refl _ V).alloc _)
    have hbD : Blk (V.alloc (.cells #[.slice (some ⟨w.heap.size, 0, none⟩) n n, .int .u32 last, .slice (some ⟨g, 0, none⟩) ns c] 92)) (V.heap.size) 92 [.slice (some ⟨w.heap.size, 0, none⟩) n n, .int .u32 last, .slice (some ⟨g, 0, none⟩) ns c] := Blk.new V 92 [_, _, _]
    have hbZ : Blk (V.alloc (.cells #[.slice (some ⟨w.heap.size, 0, none⟩) n n, .int .u32 last, .slice (some ⟨g, 0, none⟩) ns c] 92)) (w.heap.size) 44 Z := HZB.out.alloc _
    have hbS : Blk (V.alloc (.cells #[.slice (some ⟨w.heap.size, 0, none⟩) n n, .int .u32 last, .slice (some ⟨g, 0, none⟩) ns c] 92)) g 98 (gridT ns S.sec rest) := HB.out.alloc _
    have hgq : w.heap.size ≤ w.heap.size := Nat.le_refl _
    have hDp : w.heap.size ≤ V.heap.size := HK.out.size
    generalize V.alloc (.cells #[.slice (some ⟨w.heap.size, 0, none⟩) n n, .int .u32 last, .slice (some ⟨g, 0, none⟩) ns c] 92) = W4 at *
    obtain ⟨gq, hge⟩ : ∃ gq, gq = w.heap.size := ⟨_, rfl⟩
    rw [show (⟨w.heap.size, 0, none⟩ : Addr) = ⟨gq, 0, none⟩ by rw [hge]] at *
    rw [← hge] at hbZ
    have hgq : w.heap.size ≤ gq := Nat.le_of_eq hge.symm
    generalize hde : V.heap.size = Dp at *
    clear hge hde
    have hHH := (HH.out.keep hkW (fun _ _ => id))
    have HH4 : Hid (Holds W4.drew A n 5 fq) := hHH
    have HZ4 : Hid (Blk W4.drew gq 44 Z) := hbZ
    have s0 : W4.drew.cell? ⟨Dp, 0, none⟩ = some (.slice (some ⟨gq, 0, none⟩) n n) := hbD.cell_of (i := 0) rfl
    have s1 : W4.drew.cell? ⟨D, 0, none⟩ = some (.slice A n cap) := hkW.cellS c0 id
    have HE : Hid (∀ W' : World, Blk W' gq 44 fq → Keep (· = gq) W4.drew W' → (Blk W' Dp 92 [.slice (some ⟨gq, 0, none⟩) n n, .int .u32 last, .slice (some ⟨g, 0, none⟩) ns c] ∧ W'.ownsRow w.heap.size 44 5 (.slice (some ⟨gq, 0, none⟩) n n) n fq ∧ Blk W' g 98 (gridT ns S.sec rest) ∧ Keep none_ w W')) := fun W' hb hk => by
      refine ⟨hbD.keep (w := W4.drew) hk (hbD.ne_ hbZ (by decide)), ⟨HFL.out, .inr ⟨gq, n, fq.toArray, rfl, hgq, hb, Nat.le_refl _, by unfold maxLen; omega, by simpa using HFL.out, List.take_of_length_le (Nat.le_of_eq HFL.out)⟩⟩, hbS.keep (w := W4.drew) hk (hbS.ne_ hbZ (by decide)), (hkW.trans (Keep.refl _ W4).drew).thenF hk (fun x hx => .inr (by subst hx; exact hgq))⟩
    clear hHH hbD hbZ hbS hkW
    have hDD : D ≠ Dp := by omega
    go_region_held3 (fun W => W.cell? ⟨Dp, 0, none⟩ = some (.slice (some ⟨gq, 0, none⟩) n n) ∧ W.cell? ⟨D, 0, none⟩ = some (.slice A n cap))
      (first | exact ⟨s0, s1⟩ | exact ⟨r0, r1⟩ | go_keep)
      ((refine step_copy_whole (by rfl) _ _ 38 38 (by rfl) 44 5 Try.underlying38 size44 gq n n A cap ?hd ?hs Z 44 fq HZ4.out HH4.out HZ.out HO.out ?_; (case hd => go_simp); (case hs => go_simp); intro W5 hb5 hk5 _; have hF := HE.out W5 hb5 hk5; have r0 := hF.1.cell_of (i := 0) rfl; have r1 := hF.2.2.2.cellS c0 id; have HF := Lib.hid hF; clear hF hb5 hk5))
    go_wp2
    go_ret
    exact ⟨_, _, g, c, rest, rfl, HF.out.1, HF.out.2.1, HF.out.2.2.1, HGL.out, hDp, HF.out.2.2.2⟩
  · have hkW : Keep none_ w ((V.alloc (.cells Z.toArray 44)).alloc (.cells #[.slice (some ⟨V.heap.size, 0, none⟩) n n, .int .u32 last, .slice (some ⟨g, 0, none⟩) ns c] 92)) := HK.out.trans (((Keep.refl _ V).alloc _).alloc _)
    have hbD : Blk ((V.alloc (.cells Z.toArray 44)).alloc (.cells #[.slice (some ⟨V.heap.size, 0, none⟩) n n, .int .u32 last, .slice (some ⟨g, 0, none⟩) ns c] 92)) (V.heap.size + 1) 92 [.slice (some ⟨V.heap.size, 0, none⟩) n n, .int .u32 last, .slice (some ⟨g, 0, none⟩) ns c] := by have := Blk.new (V.alloc (.cells Z.toArray 44)) 92 [.slice (some ⟨V.heap.size, 0, none⟩) n n, .int .u32 last, .slice (some ⟨g, 0, none⟩) ns c]; rw [World.size_alloc] at this; exact this
    have hbZ : Blk ((V.alloc (.cells Z.toArray 44)).alloc (.cells #[.slice (some ⟨V.heap.size, 0, none⟩) n n, .int .u32 last, .slice (some ⟨g, 0, none⟩) ns c] 92)) (V.heap.size) 44 Z := (Blk.new V 44 Z).alloc _
    have hbS : Blk ((V.alloc (.cells Z.toArray 44)).alloc (.cells #[.slice (some ⟨V.heap.size, 0, none⟩) n n, .int .u32 last, .slice (some ⟨g, 0, none⟩) ns c] 92)) g 98 (gridT ns S.sec rest) := (HB.out.alloc _).alloc _
    have hgq : w.heap.size ≤ V.heap.size := HK.out.size
    have hDp : w.heap.size ≤ V.heap.size + 1 := Nat.le_trans HK.out.size (Nat.le_succ _)
    generalize (V.alloc (.cells Z.toArray 44)).alloc (.cells #[.slice (some ⟨V.heap.size, 0, none⟩) n n, .int .u32 last, .slice (some ⟨g, 0, none⟩) ns c] 92) = W4 at *
    generalize hde : V.heap.size + 1 = Dp at *
    generalize hge : V.heap.size = gq at *
    clear hge hde
    have hHH := (HH.out.keep hkW (fun _ _ => id))
    have HH4 : Hid (Holds W4.drew A n 5 fq) := hHH
    have HZ4 : Hid (Blk W4.drew gq 44 Z) := hbZ
    have s0 : W4.drew.cell? ⟨Dp, 0, none⟩ = some (.slice (some ⟨gq, 0, none⟩) n n) := hbD.cell_of (i := 0) rfl
    have s1 : W4.drew.cell? ⟨D, 0, none⟩ = some (.slice A n cap) := hkW.cellS c0 id
    have HE : Hid (∀ W' : World, Blk W' gq 44 fq → Keep (· = gq) W4.drew W' → (Blk W' Dp 92 [.slice (some ⟨gq, 0, none⟩) n n, .int .u32 last, .slice (some ⟨g, 0, none⟩) ns c] ∧ W'.ownsRow w.heap.size 44 5 (.slice (some ⟨gq, 0, none⟩) n n) n fq ∧ Blk W' g 98 (gridT ns S.sec rest) ∧ Keep none_ w W')) := fun W' hb hk => by
      refine ⟨hbD.keep (w := W4.drew) hk (hbD.ne_ hbZ (by decide)), ⟨HFL.out, .inr ⟨gq, n, fq.toArray, rfl, hgq, hb, Nat.le_refl _, by unfold maxLen; omega, by simpa using HFL.out, List.take_of_length_le (Nat.le_of_eq HFL.out)⟩⟩, hbS.keep (w := W4.drew) hk (hbS.ne_ hbZ (by decide)), (hkW.trans (Keep.refl _ W4).drew).thenF hk (fun x hx => .inr (by subst hx; exact hgq))⟩
    clear hHH hbD hbZ hbS hkW
    have hDD : D ≠ Dp := by omega
    go_region_held3 (fun W => W.cell? ⟨Dp, 0, none⟩ = some (.slice (some ⟨gq, 0, none⟩) n n) ∧ W.cell? ⟨D, 0, none⟩ = some (.slice A n cap))
      (first | exact ⟨s0, s1⟩ | exact ⟨r0, r1⟩ | go_keep)
      ((refine step_copy_whole (by rfl) _ _ 38 38 (by rfl) 44 5 Try.underlying38 size44 gq n n A cap ?hd ?hs Z 44 fq HZ4.out HH4.out HZ.out HO.out ?_; (case hd => go_simp); (case hs => go_simp); intro W5 hb5 hk5 _; have hF := HE.out W5 hb5 hk5; have r0 := hF.1.cell_of (i := 0) rfl; have r1 := hF.2.2.2.cellS c0 id; have HF := Lib.hid hF; clear hF hb5 hk5))
    go_wp2
    go_ret
    exact ⟨_, _, g, c, rest, rfl, HF.out.1, HF.out.2.1, HF.out.2.2.1, HGL.out, hDp, HF.out.2.2.2⟩
end
end Go.Proofs.Ytjlenocmfeggdaa
