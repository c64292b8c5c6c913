/- The walk of Deliver: the bytes come. -/
import Derived.Test.YtjlenocmfeggdaaImpI
namespace Go.Proofs.Ytjlenocmfeggdaa
open Go.RowKit
attribute [local go_sem] cell_alloc_some frozen_alloc_some
section
variable {w w' : World} {D M : Nat} {S : St} {v : Value} {sb fb : Nat} {T : Tl} {F : Nat → Prop}
set_option maxRecDepth 100000 in
set_option maxHeartbeats 2000000 in
theorem deliver_read (h : RepT w D M S v sb fb T F) (hFl : ∀ b, F b → b < w.heap.size) (i : Nat) (hi : i < S.q.length) (r : Req) (hr : S.q[i]? = some r) (ks kf : Nat) (hs : r.sec = ks) (hf : r.fr = kf) (hks : ks < S.ns) (hkf : kf < S.nf) (hw : r.wr = false) :
    Calls Try.prog 17 #[.pointer (some ⟨D, 0, none⟩), .int .i64 i, .pointer (some ⟨M, 0, none⟩)] w fun e w' => e = .returned (.tuple #[.agg (reqc r).toArray, .int .i64 0]) ∧ (∃ v', RepT w' D M { S.pop i with fr := upd2 S.fr kf (S.sec ks) } v' sb fb T F) ∧ Keep F w w' := by
  have H1 := Lib.hid (pop_mid h hFl i hi r hr)
  obtain ⟨A, cap, rfl⟩ := h.lenQ
  have c0 := h.disk.cell_of (i := 0) rfl
  have hq8 := h.inv.q8
  have hns := h.inv.ns1
  have H2 : Hid (∀ {W : World} {bx : Nat}, Mid w W D M (S.pop i) sb fb T F r bx → Calls Try.prog 13 #[.pointer (some ⟨M, 0, none⟩), .int .i64 kf] W fun e w' => ∃ u, e = .returned (.tuple #[u, .int .i64 0]) ∧ w'.ownsRow W.heap.size 5 1 u 32 ((bytes32 (S.fr kf)).map byv) ∧ Keep none_ W w') := fun hm => by
    obtain ⟨v', hrep⟩ := hm.rep
    exact frame_ok hrep kf hkf
  have HF : Hid (∀ {W : World} {bx : Nat} {S1 : St}, Mid w W D M S1 sb fb T F r bx → _) := fun hm => hm.fin hFl
  have HFILL : Hid (∀ {W : World} {bx : Nat}, Mid w W D M (S.pop i) sb fb T F r bx → Calls Try.prog 45 #[.pointer (some ⟨M, 0, none⟩), .int .i64 kf, .int .i64 0, .slice (some ⟨sb, ks * 32, none⟩) 32 32] W fun e w' => e = .returned (.int .i64 0) ∧ Mid w w' D M { S.pop i with fr := upd2 S.fr kf (S.sec ks) } sb fb T F r bx) := fun hm => by
    obtain ⟨v', hrep⟩ := hm.rep
    refine (fill_any hrep kf hkf ⟨sb, ks * 32, none⟩ (S.sec ks) (hrep.sectorCells (i := ks) hks).2).mono ?_
    rintro e w' ⟨rfl, hr2, hk2⟩
    exact ⟨rfl, hm.frameSet hr2 hk2⟩
  have hq0 : (S.pop i).ns = S.ns := rfl
  have hq1 : (S.pop i).sec = S.sec := rfl
  have hq2 : (S.pop i).nf = S.nf := rfl
  have hq3 : (S.pop i).fr = S.fr := rfl
  have HQ0 := Lib.hid hq0
  have HQ1 := Lib.hid hq1
  clear h hr hFl hq0 hq1 hq2 hq3
  generalize S.pop i = S1 at *
  generalize S.q.length = n at *
  generalize S.ns = ns at *
  have hn : (n : Int) ≤ 8 := by omega
  have i0 : ¬ ((i : Int) < 0) := by omega
  have i1 : ¬ ((i : Int) ≥ n) := by omega
  have i2 : (i : Int) ≤ 8 := by omega
  have i3 : (0 : Int) ≤ (ks : Int) := by omega
  have i4 : (ks : Int) < (ns : Int) := by omega
  have i5 : (ns : Int) ≤ 64 := by omega
  obtain ⟨rid, rwr, rsec, rfr, rown⟩ := r
  unfold reqc zero44c at *
  simp only at hs hf hw
  subst hs hf hw
  go_enter Try.func17, Try.ntmps17
  go_wp2_with fail
  refine H1.out.mono ?_
  rintro e w1 ⟨rfl, hm⟩
  have HM := Lib.hid hm
  have x3 := hm.box.cell_of (i := 3) rfl
  clear hm H1
  go_wp2_with fail
  refine (H2.out HM.out).mono ?_
  rintro e W3 ⟨u, rfl, hu, hk3⟩
  have HM3 := Lib.hid (HM.out.keep0 hk3)
  obtain ⟨gu, cu, rfl, _, _⟩ := hu.form (by decide)
  have HU := Lib.hid hu
  have hbx : w1.heap.size < W3.heap.size := HM3.out.box.lt
  clear hk3 HM hu
  generalize w1.heap.size = bx at *
  have x0 := HM3.out.box.cell_of (i := 0) rfl
  have x1 := HM3.out.box.cell_of (i := 1) rfl
  have x2 := HM3.out.box.cell_of (i := 2) rfl
  have x3 := HM3.out.box.cell_of (i := 3) rfl
  have x4 := HM3.out.box.cell_of (i := 4) rfl
  have hd2 : W3.cell? ⟨D, 2, none⟩ = some (.slice (some ⟨sb, 0, none⟩) ns T.sc) := by
    obtain ⟨v', hrep⟩ := HM3.out.rep
    have := hrep.disk.cell_of (i := 2) rfl
    rw [HQ0.out] at this
    exact this
  go_wp2_with fail
  have HM3d : Hid (Mid w W3.drew D M S1 sb fb T F ⟨rid, false, ks, kf, rown⟩ bx) := HM3.out.keep0 (Keep.refl _ W3).drew
  clear HU
  go_region_held3 (fun W => W.cell? ⟨D, 2, none⟩ = some (.slice (some ⟨sb, 0, none⟩) ns T.sc) ∧ W.cell? ⟨bx, 2, none⟩ = some (.int .i64 ks) ∧ W.cell? ⟨bx, 3, none⟩ = some (.int .i64 kf))
    (first | exact ⟨hd2, x2, x3⟩ | exact ⟨t0, t1, t2⟩ | go_keep)
    (first | (go_at_call 45; refine Calls.mono (by exact HFILL.out HM3d.out) ?_; rintro e W4 ⟨rfl, hm4⟩; have t0 : W4.cell? ⟨D, 2, none⟩ = some (.slice (some ⟨sb, 0, none⟩) ns T.sc) := (by obtain ⟨v', hrep⟩ := hm4.rep; have := hrep.disk.cell_of (i := 2) rfl; rw [show ({ S1 with fr := upd2 S.fr kf (S.sec ks) } : St).ns = ns from HQ0.out] at this; exact this); have t1 := hm4.box.cell_of (i := 2) rfl; have t2 := hm4.box.cell_of (i := 3) rfl; have HM4 := Lib.hid hm4; clear hm4))

  have x0 := HM4.out.box.cell_of (i := 0) rfl
  have x1 := HM4.out.box.cell_of (i := 1) rfl
  have x2 := HM4.out.box.cell_of (i := 2) rfl
  have x3 := HM4.out.box.cell_of (i := 3) rfl
  have x4 := HM4.out.box.cell_of (i := 4) rfl
  have z0 := HM4.out.res.cell_of (i := 0) rfl
  have z1 := HM4.out.res.cell_of (i := 1) rfl
  have z2 := HM4.out.res.cell_of (i := 2) rfl
  have z3 := HM4.out.res.cell_of (i := 3) rfl
  have z4 := HM4.out.res.cell_of (i := 4) rfl
  have f0 := HM4.out.res.frozen 0
  have f1 := HM4.out.res.frozen 1
  have f2 := HM4.out.res.frozen 2
  have f3 := HM4.out.res.frozen 3
  have f4 := HM4.out.res.frozen 4
  go_wp2
  obtain ⟨hR, hB, hK⟩ := HF.out HM4.out
  unfold fin5 at hR hB hK
  have v0 := hB.cell_of (i := 0) rfl
  have v1 := hB.cell_of (i := 1) rfl
  have v2 := hB.cell_of (i := 2) rfl
  have v3 := hB.cell_of (i := 3) rfl
  have v4 := hB.cell_of (i := 4) rfl
  exact bodyPost_ret (v := .tuple #[.agg #[.int .u32 rid, .bool false, .int .i64 ks, .int .i64 kf, .int .u8 rown], .int .i64 0]) (by simp [results, Try.results17, go_sem, v0, v1, v2, v3, v4]) rfl ⟨rfl, hR, hK⟩
end
end Go.Proofs.Ytjlenocmfeggdaa
