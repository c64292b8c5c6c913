/- The walk of the law DevNone. -/
import Derived.Test.YtjlenocmfeggdaaNil
import Derived.Test.YtjlenocmfeggdaaSameB
namespace Go.Proofs.Ytjlenocmfeggdaa
open Go.RowKit
attribute [local go_sem] cell_alloc_some frozen_alloc_some
theorem boxed44b {W : World} {B : Nat} {p0 p1 p2 p3 p4 : Value} (hb : Blk W B 44 [p0, p1, p2, p3, p4]) (q0 q1 q2 q3 q4 : Value) {W' : World}
    (hW : W' = ((((W.setCell ⟨B, 0, none⟩ q0).setCell ⟨B, 1, none⟩ q1).setCell ⟨B, 2, none⟩ q2).setCell ⟨B, 3, none⟩ q3).setCell ⟨B, 4, none⟩ q4) : Blk W' B 44 [q0, q1, q2, q3, q4] ∧ Keep (· = B) W W' := by
  subst hW
  exact ⟨((((hb.set_ 0 q0).set_ 1 q1).set_ 2 q2).set_ 3 q3).set_ 4 q4, Keep.setCell (S := (· = B)) (p := ⟨B, 4, none⟩) (Keep.setCell (S := (· = B)) (p := ⟨B, 3, none⟩) (Keep.setCell (S := (· = B)) (p := ⟨B, 2, none⟩) (Keep.setCell (S := (· = B)) (p := ⟨B, 1, none⟩) (Keep.setCell (S := (· = B)) (p := ⟨B, 0, none⟩) (Keep.refl _ W) (.inl rfl) _) (.inl rfl) _) (.inl rfl) _) (.inl rfl) _) (.inl rfl) _⟩
set_option maxRecDepth 100000 in
set_option maxHeartbeats 8000000 in
theorem nones_all (w : World) (d : Deed) (n : Int) :
    Calls Try.prog 8 #[.agg (dcells d).toArray, .int .i64 n] w fun e w' => e = .returned (.bool true) ∧ Keep none_ w w' := by
  obtain ⟨op, ix, ⟨rid, rwr, rsec, rfr, rown⟩, bb, bv⟩ := d
  unfold dcells
  simp only
  obtain ⟨wa, hwa⟩ : ∃ wa, wa = w.alloc (.cells #[.int .i64 op, .int .i64 ix, .int .u32 rid, .bool rwr, .int .i64 rsec, .int .i64 rfr, .int .u8 rown, bv] 74) := ⟨_, rfl⟩
  have HWA := Lib.hid hwa
  have HKA : Hid (Keep none_ w wa) := by rw [hwa]; exact (Keep.refl _ w).alloc _
  have HLW : Hid (w.heap.size < wa.heap.size) := by rw [hwa]; show _ < _; simp
  have HB : Hid (∀ {V : World}, Keep none_ wa V → Blk V w.heap.size 74 [.int .i64 op, .int .i64 ix, .int .u32 rid, .bool rwr, .int .i64 rsec, .int .i64 rfr, .int .u8 rown, bv]) := fun hk => (show Blk wa w.heap.size 74 [.int .i64 op, .int .i64 ix, .int .u32 rid, .bool rwr, .int .i64 rsec, .int .i64 rfr, .int .u8 rown, bv] by rw [hwa]; exact Blk.new w 74 _).keep hk id
  have b0 := (HB.out (Keep.refl none_ wa)).cell_of (i := 2) rfl
  have b1 := (HB.out (Keep.refl none_ wa)).cell_of (i := 3) rfl
  have b2 := (HB.out (Keep.refl none_ wa)).cell_of (i := 4) rfl
  have b3 := (HB.out (Keep.refl none_ wa)).cell_of (i := 5) rfl
  have b4 := (HB.out (Keep.refl none_ wa)).cell_of (i := 6) rfl
  have HASK := Lib.hid (ask_nil wa ⟨rid, rwr, rsec, rfr, rown⟩)
  unfold reqc at HASK
  clear hwa
  go_enter Try.func8, Try.ntmps8
  go_wp2_with fail
  rw [← HWA.out]
  go_wp2_with fail
  refine HASK.out.mono ?_
  rintro e w1 ⟨rfl, hk1⟩
  have HKC := Lib.hid hk1
  clear b0 b1 b2 b3 b4 hk1 HASK
  go_wp2_with fail
  refine wp_region_X (S := fun W => Blk W w.heap.size 74 [.int .i64 op, .int .i64 ix, .int .u32 rid, .bool rwr, .int .i64 rsec, .int .i64 rfr, .int .u8 rown, bv]) (last := 10) (by kernel_rfl) ?_
  replace HKC := Lib.hid (HKC.out.drew)
  have hS := HB.out HKC.out
  generalize w1.drew = wd at *
  refine wpAnyX_take (i := 0) (v := ?_) rfl (by kernel_rfl) (by kernel_rfl) (by kernel_rfl) (by kernel_rfl) (by decide) (fun _ _ _ h => h) hS (Or.inl ⟨by rfl, fun W hSW => ?_⟩) ?_
  rotate_left
  { have e1 := hSW.cell_of (i := 1) rfl
    go_simp
    with_reducible rfl }
  refine wpAnyX_take (i := 1) (v := ?_) rfl (by kernel_rfl) (by kernel_rfl) (by kernel_rfl) (by kernel_rfl) (by decide) (fun _ _ _ h => h) hS (Or.inl ⟨by rfl, fun W hSW => ?_⟩) ?_
  rotate_left
  { have e1 := hSW.cell_of (i := 1) rfl
    go_simp
    with_reducible rfl }
  refine wpAnyX_take (i := 2) (v := ?_) rfl (by kernel_rfl) (by kernel_rfl) (by kernel_rfl) (by kernel_rfl) (by decide) (fun _ _ _ h => h) hS (Or.inl ⟨by rfl, fun W hSW => ?_⟩) ?_
  rotate_left
  { have e1 := hSW.cell_of (i := 1) rfl
    go_simp
    with_reducible rfl }
  refine wpAnyX_ready (rs := [3, 8]) (by kernel_rfl) (by simp) ?_
  refine AllX.cons rfl (fun K hK => ?_) (AllX.cons rfl (fun K hK => ?_) AllX.nil)
  · skip
    go_simp
    refine Calls.mono (by exact newmem_ok _ 1 (by decide) (by decide)) ?_
    rintro e v0 ⟨rfl, -, -, hkk, -⟩
    generalize wd.heap.size + 1 = M at *
    replace HKC := Lib.hid (HKC.out.trans hkk)
    replace hS := hS.keep hkk id
    clear hkk
    refine hK.out _ _ (.inr hS) ?_
    clear hK K
    refine wpAnyX_ready (rs := [4, 8]) (by kernel_rfl) (by simp) ?_
    refine AllX.cons rfl (fun K hK => ?_) (AllX.cons rfl (fun K hK => ?_) AllX.nil)
    · skip
      go_simp
      refine Calls.mono (by exact deliver_nil _ none _ ix (.inl rfl)) ?_
      rintro e v1 ⟨rfl, hkk⟩
      unfold reqc zeroR
      replace HKC := Lib.hid (HKC.out.trans hkk)
      replace hS := hS.keep hkk id
      clear hkk
      refine hK.out _ _ (.inr hS) ?_
      clear hK K
      refine wpAnyX_take (i := 5) (v := ?_) rfl (by kernel_rfl) (by kernel_rfl) (by kernel_rfl) (by kernel_rfl) (by decide) (fun _ _ _ h => h) hS (Or.inl ⟨by rfl, fun W hSW => ?_⟩) ?_
      rotate_left
      { have e1 := hSW.cell_of (i := 1) rfl
        go_simp
        with_reducible rfl }
      refine wpAnyX_take (i := 6) (v := ?_) rfl (by kernel_rfl) (by kernel_rfl) (by kernel_rfl) (by kernel_rfl) (by decide) (fun _ _ _ h => h) hS (Or.inl ⟨by rfl, fun W hSW => ?_⟩) ?_
      rotate_left
      { have e1 := hSW.cell_of (i := 1) rfl
        go_simp
        with_reducible rfl }
      refine wpAnyX_take (i := 7) (v := ?_) rfl (by kernel_rfl) (by kernel_rfl) (by kernel_rfl) (by kernel_rfl) (by decide) (fun _ _ _ h => h) hS (Or.inl ⟨by rfl, fun W hSW => ?_⟩) ?_
      rotate_left
      { have e1 := hSW.cell_of (i := 1) rfl
        go_simp
        with_reducible rfl }
      refine wpAnyX_ready (rs := [8]) (by kernel_rfl) (by simp) ?_
      refine AllX.cons rfl (fun K hK => ?_) AllX.nil
      go_simp
      have hB : Blk (v1.alloc (.cells #[.int .u32 0, .bool false, .int .i64 0, .int .i64 0, .int .u8 0] 44)) v1.heap.size 44 [.int .u32 0, .bool false, .int .i64 0, .int .i64 0, .int .u8 0] := Blk.new v1 44 _
      have hal : Keep none_ v1 (v1.alloc (.cells #[.int .u32 0, .bool false, .int .i64 0, .int .i64 0, .int .u8 0] 44)) := (Keep.refl _ v1).alloc _
      have hlb : wa.heap.size ≤ v1.heap.size := HKC.out.size
      have hlw : w.heap.size < v1.heap.size := Nat.lt_of_lt_of_le HLW.out hlb
      replace HKC := Lib.hid (HKC.out.trans hal)
      replace hS := hS.keep hal id
      generalize v1.alloc (.cells #[.int .u32 0, .bool false, .int .i64 0, .int .i64 0, .int .u8 0] 44) = va at *
      refine hK.out _ _ (.inr hS) ?_
      clear hK K hal
      refine wpAnyX_ready (rs := [9]) (by kernel_rfl) (by simp) ?_
      refine AllX.cons rfl (fun K hK => ?_) AllX.nil
      have z0 := hB.cell_of (i := 0) rfl
      have z1 := hB.cell_of (i := 1) rfl
      have z2 := hB.cell_of (i := 2) rfl
      have z3 := hB.cell_of (i := 3) rfl
      have z4 := hB.cell_of (i := 4) rfl
      have y0 := hB.frozen 0
      have y1 := hB.frozen 1
      have y2 := hB.frozen 2
      have y3 := hB.frozen 3
      have y4 := hB.frozen 4
      go_simp
      have hbx := boxed44b hB (.int .u32 0) (.bool false) (.int .i64 0) (.int .i64 0) (.int .u8 0) rfl
      have hS2 := hS.keep hbx.2 (show ¬ w.heap.size = v1.heap.size by have := hlw; omega)
      have hkf : Keep none_ wa _ := HKC.out.thenF hbx.2 (fun x hx => .inr (by subst hx; exact hlb))
      refine hK.out _ _ (.inr hS2) ?_
      clear hK K
      refine wpAnyX_ready (rs := [10]) (by kernel_rfl) (by simp) ?_
      refine AllX.cons rfl (fun K hK => ?_) AllX.nil
      go_simp
      refine hK.out _ _ (.inl rfl) ?_
      clear hK K
      refine wpAnyX_done (by kernel_rfl) ?_ _
      obtain ⟨hb8, _⟩ := hbx
      clear z0 z1 z2 z3 z4 y0 y1 y2 y3 y4 hB hS HKC
      generalize ((((((va).setCell ⟨v1.heap.size, 0, none⟩ (.int .u32 0)).setCell ⟨v1.heap.size, 1, none⟩ (.bool false)).setCell ⟨v1.heap.size, 2, none⟩ (.int .i64 0)).setCell ⟨v1.heap.size, 3, none⟩ (.int .i64 0)).setCell ⟨v1.heap.size, 4, none⟩ (.int .u8 0)) = vf at *
      clear hlw hlb
      generalize v1.heap.size = B at *
      have HKF := Lib.hid hkf
      have HB8 : Hid (∀ {V : World}, Keep none_ vf V → Blk V B 44 [.int .u32 0, .bool false, .int .i64 0, .int .i64 0, .int .u8 0]) := fun hk => hb8.keep hk id
      have c1 := hS2.cell_of (i := 1) rfl
      have HN1 := Lib.hid (sector_nil vf ix)
      clear hkf hb8 hS2
      go_wp2_with fail
      refine HN1.out.mono ?_
      rintro e u1 ⟨rfl, hk1⟩
      have HK1 := Lib.hid hk1
      clear hk1 HN1 c1
      go_wp2_with fail
      refine Calls.mono (by exact newdisk_ok _ 1 (by decide) (by decide)) ?_
      rintro e u2 ⟨rfl, -, -, hk2, -⟩
      have HK2 := Lib.hid (HK1.out.trans hk2)
      clear hk2 HK1
      generalize u1.heap.size + 1 = DD at *
      go_wp2_with fail
      refine Calls.mono (by exact deliver_nil _ (some ⟨DD, 0, none⟩) none 0 (.inr rfl)) ?_
      rintro e u3 ⟨rfl, hk3⟩
      unfold reqc zeroR
      have HK3 := Lib.hid ((HK2.out.trans hk3).alloc (.cells #[.int .u32 0, .bool false, .int .i64 0, .int .i64 0, .int .u8 0] 44))
      clear hk3 HK2
      go_wp2_with fail
      refine Calls.mono (by exact live_any _) ?_
      rintro e u4 ⟨rfl, hk4⟩
      have HK4 := Lib.hid (HK3.out.trans hk4)
      clear hk4 HK3
      have g0 := (HB8.out HK4.out).cell_of (i := 0) rfl
      have g1 := (HB8.out HK4.out).cell_of (i := 1) rfl
      have g2 := (HB8.out HK4.out).cell_of (i := 2) rfl
      have g3 := (HB8.out HK4.out).cell_of (i := 3) rfl
      have g4 := (HB8.out HK4.out).cell_of (i := 4) rfl
      have heq := eq_req ⟨0, false, 0, 0, 0⟩
      simp only at heq
      have d1 := (HB.out (HKF.out.trans HK4.out)).cell_of (i := 1) rfl
      go_wp2_with fail
      refine Calls.mono (by exact cancel_nil _ _) ?_
      rintro e u5 ⟨rfl, hk5⟩
      have HK5 := Lib.hid (HK4.out.trans hk5)
      clear hk5 HK4 g0 g1 g2 g3 g4 heq d1
      have d6 := (HB.out (HKF.out.trans HK5.out)).cell_of (i := 6) rfl
      go_wp2_with fail
      refine Calls.mono (by exact drop_nil _ _) ?_
      rintro e u6 ⟨rfl, hk6⟩
      have HK6 := Lib.hid (HK5.out.trans hk6)
      clear hk6 HK5 d6
      have d1 := (HB.out (HKF.out.trans HK6.out)).cell_of (i := 1) rfl
      have d7 := (HB.out (HKF.out.trans HK6.out)).cell_of (i := 7) rfl
      go_wp2_with fail
      refine Calls.mono (by exact set_nil _ _ _) ?_
      rintro e u7 ⟨rfl, hk7⟩
      have HK7 := Lib.hid (HK6.out.trans hk7)
      clear hk7 HK6 d1 d7
      go_wp2_with fail
      refine Calls.mono (by exact wait_nil _) ?_
      rintro e u8 ⟨rfl, hk8⟩
      have HK8 := Lib.hid (HK7.out.trans hk8)
      clear hk8 HK7
      go_wp2_with fail
      refine Calls.mono (by exact size_nil _) ?_
      rintro e u9 ⟨rfl, hk9⟩
      have HK9 := Lib.hid (HK8.out.trans hk9)
      clear hk9 HK8
      go_wp2_with fail
      refine Calls.mono (by exact fork_nil _) ?_
      rintro e ua ⟨rfl, hka⟩
      have HKa := Lib.hid (HK9.out.trans hka)
      clear hka HK9
      go_wp2_with fail
      by_cases hn : n < 1 ∨ 64 < n
      · refine Calls.mono (by exact newdisk_no _ n hn) ?_
        rintro e ub ⟨rfl, rfl⟩
        have HFIN := Lib.hid (HKA.out.trans (HKF.out.trans HKa.out))
        rcases hn with h1 | h1
        · go_wp2
          go_ret
          exact ⟨rfl, HFIN.out⟩
        · have h2 : ¬ n < 1 := by omega
          have h3 : n > 64 := h1
          go_wp2
          go_ret
          exact ⟨rfl, HFIN.out⟩
      · obtain ⟨m, rfl⟩ := Int.eq_ofNat_of_zero_le (show 0 ≤ n by omega)
        refine Calls.mono (by exact newdisk_ok _ m (by omega) (by omega)) ?_
        rintro e ub ⟨rfl, -, -, hkb, -⟩
        have HFIN := Lib.hid (HKA.out.trans (HKF.out.trans (HKa.out.trans hkb)))
        have h1 : ¬ (m : Int) < 1 := by omega
        have h2 : ¬ (m : Int) > 64 := by omega
        have h3 : ¬ (64 : Int) < (m : Int) := by omega
        clear hkb
        go_wp2
        go_ret
        have hv : (!decide ((m : Int) < 1) && !decide ((64 : Int) < (m : Int))) = true := by rw [decide_eq_false (show ¬ (m : Int) < 1 by omega), decide_eq_false (show ¬ (64 : Int) < (m : Int) by omega)]; rfl
        refine ⟨?_, HFIN.out⟩
        show Ending.returned (Value.bool (!decide ((m : Int) < 1) && !decide ((64 : Int) < (m : Int)))) = _
        rw [hv]
    · skip
      go_simp
      have hB : Blk (v0.alloc (.cells #[.int .u32 0, .bool false, .int .i64 0, .int .i64 0, .int .u8 0] 44)) v0.heap.size 44 [.int .u32 0, .bool false, .int .i64 0, .int .i64 0, .int .u8 0] := Blk.new v0 44 _
      have hal : Keep none_ v0 (v0.alloc (.cells #[.int .u32 0, .bool false, .int .i64 0, .int .i64 0, .int .u8 0] 44)) := (Keep.refl _ v0).alloc _
      have hlb : wa.heap.size ≤ v0.heap.size := HKC.out.size
      have hlw : w.heap.size < v0.heap.size := Nat.lt_of_lt_of_le HLW.out hlb
      replace HKC := Lib.hid (HKC.out.trans hal)
      replace hS := hS.keep hal id
      generalize v0.alloc (.cells #[.int .u32 0, .bool false, .int .i64 0, .int .i64 0, .int .u8 0] 44) = va at *
      refine hK.out _ _ (.inr hS) ?_
      clear hK K hal
      refine wpAnyX_ready (rs := [4]) (by kernel_rfl) (by simp) ?_
      refine AllX.cons rfl (fun K hK => ?_) AllX.nil
      go_simp
      refine Calls.mono (by exact deliver_nil _ none _ ix (.inl rfl)) ?_
      rintro e v1 ⟨rfl, hkk⟩
      unfold reqc zeroR
      replace HKC := Lib.hid (HKC.out.trans hkk)
      replace hS := hS.keep hkk id
      replace hB := hB.keep hkk id
      clear hkk
      refine hK.out _ _ (.inr hS) ?_
      clear hK K
      refine wpAnyX_take (i := 5) (v := ?_) rfl (by kernel_rfl) (by kernel_rfl) (by kernel_rfl) (by kernel_rfl) (by decide) (fun _ _ _ h => h) hS (Or.inl ⟨by rfl, fun W hSW => ?_⟩) ?_
      rotate_left
      { have e1 := hSW.cell_of (i := 1) rfl
        go_simp
        with_reducible rfl }
      refine wpAnyX_take (i := 6) (v := ?_) rfl (by kernel_rfl) (by kernel_rfl) (by kernel_rfl) (by kernel_rfl) (by decide) (fun _ _ _ h => h) hS (Or.inl ⟨by rfl, fun W hSW => ?_⟩) ?_
      rotate_left
      { have e1 := hSW.cell_of (i := 1) rfl
        go_simp
        with_reducible rfl }
      refine wpAnyX_take (i := 7) (v := ?_) rfl (by kernel_rfl) (by kernel_rfl) (by kernel_rfl) (by kernel_rfl) (by decide) (fun _ _ _ h => h) hS (Or.inl ⟨by rfl, fun W hSW => ?_⟩) ?_
      rotate_left
      { have e1 := hSW.cell_of (i := 1) rfl
        go_simp
        with_reducible rfl }
      refine wpAnyX_ready (rs := [9]) (by kernel_rfl) (by simp) ?_
      refine AllX.cons rfl (fun K hK => ?_) AllX.nil
      have z0 := hB.cell_of (i := 0) rfl
      have z1 := hB.cell_of (i := 1) rfl
      have z2 := hB.cell_of (i := 2) rfl
      have z3 := hB.cell_of (i := 3) rfl
      have z4 := hB.cell_of (i := 4) rfl
      have y0 := hB.frozen 0
      have y1 := hB.frozen 1
      have y2 := hB.frozen 2
      have y3 := hB.frozen 3
      have y4 := hB.frozen 4
      go_simp
      have hbx := boxed44b hB (.int .u32 0) (.bool false) (.int .i64 0) (.int .i64 0) (.int .u8 0) rfl
      have hS2 := hS.keep hbx.2 (show ¬ w.heap.size = v0.heap.size by have := hlw; omega)
      have hkf : Keep none_ wa _ := HKC.out.thenF hbx.2 (fun x hx => .inr (by subst hx; exact hlb))
      refine hK.out _ _ (.inr hS2) ?_
      clear hK K
      refine wpAnyX_ready (rs := [10]) (by kernel_rfl) (by simp) ?_
      refine AllX.cons rfl (fun K hK => ?_) AllX.nil
      go_simp
      refine hK.out _ _ (.inl rfl) ?_
      clear hK K
      refine wpAnyX_done (by kernel_rfl) ?_ _
      obtain ⟨hb8, _⟩ := hbx
      clear z0 z1 z2 z3 z4 y0 y1 y2 y3 y4 hB hS HKC
      generalize ((((((v1).setCell ⟨v0.heap.size, 0, none⟩ (.int .u32 0)).setCell ⟨v0.heap.size, 1, none⟩ (.bool false)).setCell ⟨v0.heap.size, 2, none⟩ (.int .i64 0)).setCell ⟨v0.heap.size, 3, none⟩ (.int .i64 0)).setCell ⟨v0.heap.size, 4, none⟩ (.int .u8 0)) = vf at *
      clear hlw hlb
      generalize v0.heap.size = B at *
      have HKF := Lib.hid hkf
      have HB8 : Hid (∀ {V : World}, Keep none_ vf V → Blk V B 44 [.int .u32 0, .bool false, .int .i64 0, .int .i64 0, .int .u8 0]) := fun hk => hb8.keep hk id
      have c1 := hS2.cell_of (i := 1) rfl
      have HN1 := Lib.hid (sector_nil vf ix)
      clear hkf hb8 hS2
      go_wp2_with fail
      refine HN1.out.mono ?_
      rintro e u1 ⟨rfl, hk1⟩
      have HK1 := Lib.hid hk1
      clear hk1 HN1 c1
      go_wp2_with fail
      refine Calls.mono (by exact newdisk_ok _ 1 (by decide) (by decide)) ?_
      rintro e u2 ⟨rfl, -, -, hk2, -⟩
      have HK2 := Lib.hid (HK1.out.trans hk2)
      clear hk2 HK1
      generalize u1.heap.size + 1 = DD at *
      go_wp2_with fail
      refine Calls.mono (by exact deliver_nil _ (some ⟨DD, 0, none⟩) none 0 (.inr rfl)) ?_
      rintro e u3 ⟨rfl, hk3⟩
      unfold reqc zeroR
      have HK3 := Lib.hid ((HK2.out.trans hk3).alloc (.cells #[.int .u32 0, .bool false, .int .i64 0, .int .i64 0, .int .u8 0] 44))
      clear hk3 HK2
      go_wp2_with fail
      refine Calls.mono (by exact live_any _) ?_
      rintro e u4 ⟨rfl, hk4⟩
      have HK4 := Lib.hid (HK3.out.trans hk4)
      clear hk4 HK3
      have g0 := (HB8.out HK4.out).cell_of (i := 0) rfl
      have g1 := (HB8.out HK4.out).cell_of (i := 1) rfl
      have g2 := (HB8.out HK4.out).cell_of (i := 2) rfl
      have g3 := (HB8.out HK4.out).cell_of (i := 3) rfl
      have g4 := (HB8.out HK4.out).cell_of (i := 4) rfl
      have heq := eq_req ⟨0, false, 0, 0, 0⟩
      simp only at heq
      have d1 := (HB.out (HKF.out.trans HK4.out)).cell_of (i := 1) rfl
      go_wp2_with fail
      refine Calls.mono (by exact cancel_nil _ _) ?_
      rintro e u5 ⟨rfl, hk5⟩
      have HK5 := Lib.hid (HK4.out.trans hk5)
      clear hk5 HK4 g0 g1 g2 g3 g4 heq d1
      have d6 := (HB.out (HKF.out.trans HK5.out)).cell_of (i := 6) rfl
      go_wp2_with fail
      refine Calls.mono (by exact drop_nil _ _) ?_
      rintro e u6 ⟨rfl, hk6⟩
      have HK6 := Lib.hid (HK5.out.trans hk6)
      clear hk6 HK5 d6
      have d1 := (HB.out (HKF.out.trans HK6.out)).cell_of (i := 1) rfl
      have d7 := (HB.out (HKF.out.trans HK6.out)).cell_of (i := 7) rfl
      go_wp2_with fail
      refine Calls.mono (by exact set_nil _ _ _) ?_
      rintro e u7 ⟨rfl, hk7⟩
      have HK7 := Lib.hid (HK6.out.trans hk7)
      clear hk7 HK6 d1 d7
      go_wp2_with fail
      refine Calls.mono (by exact wait_nil _) ?_
      rintro e u8 ⟨rfl, hk8⟩
      have HK8 := Lib.hid (HK7.out.trans hk8)
      clear hk8 HK7
      go_wp2_with fail
      refine Calls.mono (by exact size_nil _) ?_
      rintro e u9 ⟨rfl, hk9⟩
      have HK9 := Lib.hid (HK8.out.trans hk9)
      clear hk9 HK8
      go_wp2_with fail
      refine Calls.mono (by exact fork_nil _) ?_
      rintro e ua ⟨rfl, hka⟩
      have HKa := Lib.hid (HK9.out.trans hka)
      clear hka HK9
      go_wp2_with fail
      by_cases hn : n < 1 ∨ 64 < n
      · refine Calls.mono (by exact newdisk_no _ n hn) ?_
        rintro e ub ⟨rfl, rfl⟩
        have HFIN := Lib.hid (HKA.out.trans (HKF.out.trans HKa.out))
        rcases hn with h1 | h1
        · go_wp2
          go_ret
          exact ⟨rfl, HFIN.out⟩
        · have h2 : ¬ n < 1 := by omega
          have h3 : n > 64 := h1
          go_wp2
          go_ret
          exact ⟨rfl, HFIN.out⟩
      · obtain ⟨m, rfl⟩ := Int.eq_ofNat_of_zero_le (show 0 ≤ n by omega)
        refine Calls.mono (by exact newdisk_ok _ m (by omega) (by omega)) ?_
        rintro e ub ⟨rfl, -, -, hkb, -⟩
        have HFIN := Lib.hid (HKA.out.trans (HKF.out.trans (HKa.out.trans hkb)))
        have h1 : ¬ (m : Int) < 1 := by omega
        have h2 : ¬ (m : Int) > 64 := by omega
        have h3 : ¬ (64 : Int) < (m : Int) := by omega
        clear hkb
        go_wp2
        go_ret
        have hv : (!decide ((m : Int) < 1) && !decide ((64 : Int) < (m : Int))) = true := by rw [decide_eq_false (show ¬ (m : Int) < 1 by omega), decide_eq_false (show ¬ (64 : Int) < (m : Int) by omega)]; rfl
        refine ⟨?_, HFIN.out⟩
        show Ending.returned (Value.bool (!decide ((m : Int) < 1) && !decide ((64 : Int) < (m : Int)))) = _
        rw [hv]
  · skip
    go_simp
    have hB : Blk (wd.alloc (.cells #[.int .u32 0, .bool false, .int .i64 0, .int .i64 0, .int .u8 0] 44)) wd.heap.size 44 [.int .u32 0, .bool false, .int .i64 0, .int .i64 0, .int .u8 0] := Blk.new wd 44 _
    have hal : Keep none_ wd (wd.alloc (.cells #[.int .u32 0, .bool false, .int .i64 0, .int .i64 0, .int .u8 0] 44)) := (Keep.refl _ wd).alloc _
    have hlb : wa.heap.size ≤ wd.heap.size := HKC.out.size
    have hlw : w.heap.size < wd.heap.size := Nat.lt_of_lt_of_le HLW.out hlb
    replace HKC := Lib.hid (HKC.out.trans hal)
    replace hS := hS.keep hal id
    generalize wd.alloc (.cells #[.int .u32 0, .bool false, .int .i64 0, .int .i64 0, .int .u8 0] 44) = va at *
    refine hK.out _ _ (.inr hS) ?_
    clear hK K hal
    refine wpAnyX_ready (rs := [3]) (by kernel_rfl) (by simp) ?_
    refine AllX.cons rfl (fun K hK => ?_) AllX.nil
    go_simp
    refine Calls.mono (by exact newmem_ok _ 1 (by decide) (by decide)) ?_
    rintro e v0 ⟨rfl, -, -, hkk, -⟩
    generalize va.heap.size + 1 = M at *
    replace HKC := Lib.hid (HKC.out.trans hkk)
    replace hS := hS.keep hkk id
    replace hB := hB.keep hkk id
    clear hkk
    refine hK.out _ _ (.inr hS) ?_
    clear hK K
    refine wpAnyX_ready (rs := [4]) (by kernel_rfl) (by simp) ?_
    refine AllX.cons rfl (fun K hK => ?_) AllX.nil
    go_simp
    refine Calls.mono (by exact deliver_nil _ none _ ix (.inl rfl)) ?_
    rintro e v1 ⟨rfl, hkk⟩
    unfold reqc zeroR
    replace HKC := Lib.hid (HKC.out.trans hkk)
    replace hS := hS.keep hkk id
    replace hB := hB.keep hkk id
    clear hkk
    refine hK.out _ _ (.inr hS) ?_
    clear hK K
    refine wpAnyX_take (i := 5) (v := ?_) rfl (by kernel_rfl) (by kernel_rfl) (by kernel_rfl) (by kernel_rfl) (by decide) (fun _ _ _ h => h) hS (Or.inl ⟨by rfl, fun W hSW => ?_⟩) ?_
    rotate_left
    { have e1 := hSW.cell_of (i := 1) rfl
      go_simp
      with_reducible rfl }
    refine wpAnyX_take (i := 6) (v := ?_) rfl (by kernel_rfl) (by kernel_rfl) (by kernel_rfl) (by kernel_rfl) (by decide) (fun _ _ _ h => h) hS (Or.inl ⟨by rfl, fun W hSW => ?_⟩) ?_
    rotate_left
    { have e1 := hSW.cell_of (i := 1) rfl
      go_simp
      with_reducible rfl }
    refine wpAnyX_take (i := 7) (v := ?_) rfl (by kernel_rfl) (by kernel_rfl) (by kernel_rfl) (by kernel_rfl) (by decide) (fun _ _ _ h => h) hS (Or.inl ⟨by rfl, fun W hSW => ?_⟩) ?_
    rotate_left
    { have e1 := hSW.cell_of (i := 1) rfl
      go_simp
      with_reducible rfl }
    refine wpAnyX_ready (rs := [9]) (by kernel_rfl) (by simp) ?_
    refine AllX.cons rfl (fun K hK => ?_) AllX.nil
    have z0 := hB.cell_of (i := 0) rfl
    have z1 := hB.cell_of (i := 1) rfl
    have z2 := hB.cell_of (i := 2) rfl
    have z3 := hB.cell_of (i := 3) rfl
    have z4 := hB.cell_of (i := 4) rfl
    have y0 := hB.frozen 0
    have y1 := hB.frozen 1
    have y2 := hB.frozen 2
    have y3 := hB.frozen 3
    have y4 := hB.frozen 4
    go_simp
    have hbx := boxed44b hB (.int .u32 0) (.bool false) (.int .i64 0) (.int .i64 0) (.int .u8 0) rfl
    have hS2 := hS.keep hbx.2 (show ¬ w.heap.size = wd.heap.size by have := hlw; omega)
    have hkf : Keep none_ wa _ := HKC.out.thenF hbx.2 (fun x hx => .inr (by subst hx; exact hlb))
    refine hK.out _ _ (.inr hS2) ?_
    clear hK K
    refine wpAnyX_ready (rs := [10]) (by kernel_rfl) (by simp) ?_
    refine AllX.cons rfl (fun K hK => ?_) AllX.nil
    go_simp
    refine hK.out _ _ (.inl rfl) ?_
    clear hK K
    refine wpAnyX_done (by kernel_rfl) ?_ _
    obtain ⟨hb8, _⟩ := hbx
    clear z0 z1 z2 z3 z4 y0 y1 y2 y3 y4 hB hS HKC
    generalize ((((((v1).setCell ⟨wd.heap.size, 0, none⟩ (.int .u32 0)).setCell ⟨wd.heap.size, 1, none⟩ (.bool false)).setCell ⟨wd.heap.size, 2, none⟩ (.int .i64 0)).setCell ⟨wd.heap.size, 3, none⟩ (.int .i64 0)).setCell ⟨wd.heap.size, 4, none⟩ (.int .u8 0)) = vf at *
    clear hlw hlb
    generalize wd.heap.size = B at *
    have HKF := Lib.hid hkf
    have HB8 : Hid (∀ {V : World}, Keep none_ vf V → Blk V B 44 [.int .u32 0, .bool false, .int .i64 0, .int .i64 0, .int .u8 0]) := fun hk => hb8.keep hk id
    have c1 := hS2.cell_of (i := 1) rfl
    have HN1 := Lib.hid (sector_nil vf ix)
    clear hkf hb8 hS2
    go_wp2_with fail
    refine HN1.out.mono ?_
    rintro e u1 ⟨rfl, hk1⟩
    have HK1 := Lib.hid hk1
    clear hk1 HN1 c1
    go_wp2_with fail
    refine Calls.mono (by exact newdisk_ok _ 1 (by decide) (by decide)) ?_
    rintro e u2 ⟨rfl, -, -, hk2, -⟩
    have HK2 := Lib.hid (HK1.out.trans hk2)
    clear hk2 HK1
    generalize u1.heap.size + 1 = DD at *
    go_wp2_with fail
    refine Calls.mono (by exact deliver_nil _ (some ⟨DD, 0, none⟩) none 0 (.inr rfl)) ?_
    rintro e u3 ⟨rfl, hk3⟩
    unfold reqc zeroR
    have HK3 := Lib.hid ((HK2.out.trans hk3).alloc (.cells #[.int .u32 0, .bool false, .int .i64 0, .int .i64 0, .int .u8 0] 44))
    clear hk3 HK2
    go_wp2_with fail
    refine Calls.mono (by exact live_any _) ?_
    rintro e u4 ⟨rfl, hk4⟩
    have HK4 := Lib.hid (HK3.out.trans hk4)
    clear hk4 HK3
    have g0 := (HB8.out HK4.out).cell_of (i := 0) rfl
    have g1 := (HB8.out HK4.out).cell_of (i := 1) rfl
    have g2 := (HB8.out HK4.out).cell_of (i := 2) rfl
    have g3 := (HB8.out HK4.out).cell_of (i := 3) rfl
    have g4 := (HB8.out HK4.out).cell_of (i := 4) rfl
    have heq := eq_req ⟨0, false, 0, 0, 0⟩
    simp only at heq
    have d1 := (HB.out (HKF.out.trans HK4.out)).cell_of (i := 1) rfl
    go_wp2_with fail
    refine Calls.mono (by exact cancel_nil _ _) ?_
    rintro e u5 ⟨rfl, hk5⟩
    have HK5 := Lib.hid (HK4.out.trans hk5)
    clear hk5 HK4 g0 g1 g2 g3 g4 heq d1
    have d6 := (HB.out (HKF.out.trans HK5.out)).cell_of (i := 6) rfl
    go_wp2_with fail
    refine Calls.mono (by exact drop_nil _ _) ?_
    rintro e u6 ⟨rfl, hk6⟩
    have HK6 := Lib.hid (HK5.out.trans hk6)
    clear hk6 HK5 d6
    have d1 := (HB.out (HKF.out.trans HK6.out)).cell_of (i := 1) rfl
    have d7 := (HB.out (HKF.out.trans HK6.out)).cell_of (i := 7) rfl
    go_wp2_with fail
    refine Calls.mono (by exact set_nil _ _ _) ?_
    rintro e u7 ⟨rfl, hk7⟩
    have HK7 := Lib.hid (HK6.out.trans hk7)
    clear hk7 HK6 d1 d7
    go_wp2_with fail
    refine Calls.mono (by exact wait_nil _) ?_
    rintro e u8 ⟨rfl, hk8⟩
    have HK8 := Lib.hid (HK7.out.trans hk8)
    clear hk8 HK7
    go_wp2_with fail
    refine Calls.mono (by exact size_nil _) ?_
    rintro e u9 ⟨rfl, hk9⟩
    have HK9 := Lib.hid (HK8.out.trans hk9)
    clear hk9 HK8
    go_wp2_with fail
    refine Calls.mono (by exact fork_nil _) ?_
    rintro e ua ⟨rfl, hka⟩
    have HKa := Lib.hid (HK9.out.trans hka)
    clear hka HK9
    go_wp2_with fail
    by_cases hn : n < 1 ∨ 64 < n
    · refine Calls.mono (by exact newdisk_no _ n hn) ?_
      rintro e ub ⟨rfl, rfl⟩
      have HFIN := Lib.hid (HKA.out.trans (HKF.out.trans HKa.out))
      rcases hn with h1 | h1
      · go_wp2
        go_ret
        exact ⟨rfl, HFIN.out⟩
      · have h2 : ¬ n < 1 := by omega
        have h3 : n > 64 := h1
        go_wp2
        go_ret
        exact ⟨rfl, HFIN.out⟩
    · obtain ⟨m, rfl⟩ := Int.eq_ofNat_of_zero_le (show 0 ≤ n by omega)
      refine Calls.mono (by exact newdisk_ok _ m (by omega) (by omega)) ?_
      rintro e ub ⟨rfl, -, -, hkb, -⟩
      have HFIN := Lib.hid (HKA.out.trans (HKF.out.trans (HKa.out.trans hkb)))
      have h1 : ¬ (m : Int) < 1 := by omega
      have h2 : ¬ (m : Int) > 64 := by omega
      have h3 : ¬ (64 : Int) < (m : Int) := by omega
      clear hkb
      go_wp2
      go_ret
      have hv : (!decide ((m : Int) < 1) && !decide ((64 : Int) < (m : Int))) = true := by rw [decide_eq_false (show ¬ (m : Int) < 1 by omega), decide_eq_false (show ¬ (64 : Int) < (m : Int) by omega)]; rfl
      refine ⟨?_, HFIN.out⟩
      show Ending.returned (Value.bool (!decide ((m : Int) < 1) && !decide ((64 : Int) < (m : Int)))) = _
      rw [hv]
end Go.Proofs.Ytjlenocmfeggdaa
