/- The document's disk: Ask. -/
import Derived.Test.YtjlenocmfeggdaaRefE
namespace Go.Proofs.Ytjlenocmfeggdaa
open Go.RowKit
attribute [local go_sem] cell_alloc_some frozen_alloc_some
section
variable {w w' : World} {R M : Nat} {S : St} {v sv bv : Value} {iv : Nat → Value} {W F : Nat → Prop}
set_option maxRecDepth 100000 in
set_option maxHeartbeats 4000000 in
theorem rask_ok (h : RepR w R M S v sv bv iv W F) (hl : S.last ≤ 1000) (r : Req) (he : askE S r = 0) :
    Calls Try.prog 60 #[.pointer (some ⟨R, 0, none⟩), .agg (reqc r).toArray] w fun e w' => e = .returned (.tuple #[.int .u32 (S.last + 1), .int .i64 0]) ∧ (∃ v', RepR w' R M (askS S r) v' sv bv iv W (ext F w w')) ∧ Keep (· = R) w w' := by
  obtain ⟨i0, hi0, hz0, hz1, hz2⟩ := info_parts info44
  have hx : Blk (w.alloc (.cells (reqc r).toArray 44)) w.heap.size 44 (reqc r) := Blk.new w 44 (reqc r)
  have h1 := h.keep0 ((Keep.refl none_ w).alloc (.cells (reqc r).toArray 44))
  obtain ⟨A, cap, rfl⟩ := h.rlenQ
  obtain ⟨gs, cs, rfl, _⟩ := h.rlenS
  have hIA := h.inv.ask r
  have hE0 := ask_cases S r
  have hS : askS S r = { S with q := S.q ++ [{ r with id := S.last + 1 }], last := S.last + 1 } := by unfold askS; rw [if_pos he]
  rw [hS] at hIA ⊢
  obtain ⟨hc, hf, hq⟩ : (0 ≤ r.sec ∧ r.sec < S.ns) ∧ (0 ≤ r.fr ∧ r.fr < 64) ∧ S.q.length < 8 := by
    rcases hE0 with ⟨hE, _⟩ | ⟨hE, _⟩ | ⟨hE, _⟩ | ⟨hE, hc, hf, hq⟩
    · rw [hE] at he; cases he
    · rw [hE] at he; cases he
    · rw [hE] at he; cases he
    · exact ⟨hc, hf, hq⟩
  clear hE0
  have hns := h.inv.ns1
  have HQ : Hid (S.q.length < 8) := hq
  -- what stands behind the last store
  have HTAIL : Hid (∀ {U V : World} {v' : Value}, Keep (· = R) w U → Blk U R 118 [.slice (some ⟨gs, 0, none⟩) S.ns cs, .slice A S.q.length cap, .int .u32 ((S.last : Int) + 1)] → Blk U w.heap.size 44 (reqc { r with id := S.last + 1 }) → w.heap.size < U.heap.size → Keep none_ U V → V.ownsRow U.heap.size 44 5 v' (0 + S.q.length + 1) ([] ++ flatQ S.q ++ reqc { r with id := S.last + 1 }) →
      ((∃ v2, RepR (V.setCell ⟨R, 1, none⟩ v') R M { S with q := S.q ++ [{ r with id := S.last + 1 }], last := S.last + 1 } v2 (.slice (some ⟨gs, 0, none⟩) S.ns cs) bv iv W (ext F w (V.setCell ⟨R, 1, none⟩ v'))) ∧ Keep (· = R) w (V.setCell ⟨R, 1, none⟩ v') ∧ Blk (V.setCell ⟨R, 1, none⟩ v') w.heap.size 44 (reqc { r with id := S.last + 1 }))) := by
    intro U V v' kU dU xU hlt kV oV
    have dV := dU.keep kV id
    have kD : Keep (· = R) V (V.setCell ⟨R, 1, none⟩ v') := Keep.setCell (S := (· = R)) (p := ⟨R, 1, none⟩) (Keep.refl _ V) (.inl rfl) _
    have kW : Keep (· = R) w (V.setCell ⟨R, 1, none⟩ v') := (kU.thenF kV (fun _ hx => hx.elim)).trans kD
    have ho : (V.setCell ⟨R, 1, none⟩ v').ownsRow 0 44 5 v' (S.q.length + 1) (flatQ S.q ++ reqc { r with id := S.last + 1 }) := by
      have := ownsRow_base (ownsRow_keep oV kD (fun b hb e => own_ne oV dV (by decide) (by rw [hb, e]))) (Nat.zero_le _)
      rw [Nat.zero_add, List.nil_append] at this; exact this
    have hD := dV.set_ 1 v'
    refine ⟨⟨v', h.qset kW hIA rfl rfl rfl rfl hD ?_ (fun g hg => .inr ?_)⟩, kW, (xU.keep kV id).keep kD ((xU.keep kV id).ne_ dV (by decide))⟩
    · show (V.setCell ⟨R, 1, none⟩ v').ownsRow 0 44 5 v' (S.q ++ [_]).length (flatQ (S.q ++ [_]))
      rw [flatQ_append, List.length_append]
      simpa [flatQ] using ho
    · have := (ownsRow_lt oV hg).1; have := kU.size; omega
  have c0 := h1.disk.cell_of (i := 0) rfl
  have c1 := h1.disk.cell_of (i := 1) rfl
  have c2 := h1.disk.cell_of (i := 2) rfl
  have y2 := h1.disk.frozen 2
  have HD := Lib.hid h1.disk
  have HX := Lib.hid hx
  have HHO := Lib.hid (Holds.of_own h.que)
  have hOR : Hid (∀ {ad : Addr}, A = some ad → ad.block ≠ R) := fun e x => own_ne h.que h.disk (by decide) (by rw [e]; exact congrArg some x)
  have HFO := Lib.hid (flatQ_one S.q)
  have hRlt := h.disk.lt
  obtain ⟨rid, rwr, rsec, rfr, rown⟩ := r
  simp only at hc hf HTAIL
  unfold reqc at *
  obtain ⟨xr, hxr⟩ : ∃ xr, xr = [Value.int .u32 ((S.last : Int) + 1), .bool rwr, .int .i64 rsec, .int .i64 rfr, .int .u8 rown] := ⟨_, rfl⟩
  rw [← hxr] at HTAIL
  have HXR := Lib.hid hxr
  clear hxr
  have HXO : Hid (∀ u ∈ xr, u.oneCell' = true) := by rw [HXR.out]; simp [Value.oneCell', Hid]
  have HXL : Hid (xr.length = 1 * 5) := by rw [HXR.out]; exact Lib.hid rfl
  have x0 := hx.cell_of (i := 0) rfl
  have x1 := hx.cell_of (i := 1) rfl
  have x2 := hx.cell_of (i := 2) rfl
  have x3 := hx.cell_of (i := 3) rfl
  have x4 := hx.cell_of (i := 4) rfl
  have z0 := hx.frozen 0
  have hne : w.heap.size ≠ R := by omega
  clear h h1 hx he hS hIA
  generalize flatQ S.q = fq at *
  generalize S.ns = ns at *
  generalize S.last = last at *
  have hqn : decide ((8 : Int) ≤ (S.q.length : Int)) = false := by simp; omega
  have hqn2 : decide (8 ≤ S.q.length) = false := by simp; omega
  generalize S.q.length = n at *
  have hc' : decide (rsec < 0) = false := by simp; omega
  have hc2 : decide ((ns : Int) ≤ rsec) = false := by simp; omega
  have hf' : decide (rfr < 0) = false := by simp; omega
  have hf2 : decide ((64 : Int) ≤ rfr) = false := by simp; omega
  have j0 : (0 : Int) ≤ (last : Int) := by omega
  have j1 : (last : Int) ≤ 1000 := by omega
  go_enter Try.func60, Try.ntmps60
  go_wp2_with fail
  go_quiet (fail)
  go_wp2_with fail
  have hk0 : Keep none_ w ((w.alloc (.cells #[.int .u32 rid, .bool rwr, .int .i64 rsec, .int .i64 rfr, .int .u8 rown] 44)).drewN nq) := ((Keep.refl _ w).alloc _).drewN _
  have hkU : Keep (· = R) w (((((w.alloc (.cells #[.int .u32 rid, .bool rwr, .int .i64 rsec, .int .i64 rfr, .int .u8 rown] 44)).drewN nq).setCell ⟨R, 2, none⟩ (.int .u32 ((last : Int) + 1))).setCell ⟨w.heap.size, 0, none⟩ (.int .u32 ((last : Int) + 1))).drew) :=
    (((hk0.mono (S' := (· = R)) (fun _ hx => hx.elim)).setCell (p := ⟨R, 2, none⟩) (.inl rfl) _).setCell (p := ⟨w.heap.size, 0, none⟩) (.inr (Nat.le_refl _)) _).drew
  have hdU : Blk (((((w.alloc (.cells #[.int .u32 rid, .bool rwr, .int .i64 rsec, .int .i64 rfr, .int .u8 rown] 44)).drewN nq).setCell ⟨R, 2, none⟩ (.int .u32 ((last : Int) + 1))).setCell ⟨w.heap.size, 0, none⟩ (.int .u32 ((last : Int) + 1))).drew) R 118 [.slice (some ⟨gs, 0, none⟩) ns cs, .slice A n cap, .int .u32 ((last : Int) + 1)] :=
    (((HD.out.drewN nq).set_ 2 (.int .u32 ((last : Int) + 1))).far (p := ⟨w.heap.size, 0, none⟩) (Ne.symm hne) _).drew
  have hxU : Blk (((((w.alloc (.cells #[.int .u32 rid, .bool rwr, .int .i64 rsec, .int .i64 rfr, .int .u8 rown] 44)).drewN nq).setCell ⟨R, 2, none⟩ (.int .u32 ((last : Int) + 1))).setCell ⟨w.heap.size, 0, none⟩ (.int .u32 ((last : Int) + 1))).drew) w.heap.size 44 [.int .u32 ((last : Int) + 1), .bool rwr, .int .i64 rsec, .int .i64 rfr, .int .u8 rown] :=
    (((HX.out.drewN nq).far (p := ⟨R, 2, none⟩) hne _).set_ 0 (.int .u32 ((last : Int) + 1))).drew
  obtain ⟨U0, hU0⟩ : ∃ U0, U0 = ((((w.alloc (.cells #[.int .u32 rid, .bool rwr, .int .i64 rsec, .int .i64 rfr, .int .u8 rown] 44)).drewN nq).setCell ⟨R, 2, none⟩ (.int .u32 ((last : Int) + 1))).setCell ⟨w.heap.size, 0, none⟩ (.int .u32 ((last : Int) + 1))) := ⟨_, rfl⟩
  rw [← hU0] at hkU hdU hxU ⊢
  clear hU0 hk0 HD HX c0 c1 c2 y2 x0 x1 x2 x3 x4 z0
  have HHO1 : Hid (∀ {V : World}, Keep none_ U0.drew V → Holds V A n 5 fq) := fun hk => (HHO.out.keep hkU (fun ad e x => by
    have hx : ad.block = R := x
    exact hOR.out e hx)).keep hk (fun _ _ => id)
  clear HHO
  refine wp_region_X (S := fun V => Blk V R 118 [.slice (some ⟨gs, 0, none⟩) ns cs, .slice A n cap, .int .u32 ((last : Int) + 1)] ∧ Blk V w.heap.size 44 [.int .u32 ((last : Int) + 1), .bool rwr, .int .i64 rsec, .int .i64 rfr, .int .u8 rown]) (last := 12) (by kernel_rfl) ?_
  obtain ⟨U, hU⟩ : ∃ U, U = U0.drew := ⟨_, rfl⟩
  rw [← hU] at hkU hdU hxU HHO1 ⊢
  clear hU
  have hS : Blk U R 118 [.slice (some ⟨gs, 0, none⟩) ns cs, .slice A n cap, .int .u32 ((last : Int) + 1)] ∧ Blk U w.heap.size 44 [.int .u32 ((last : Int) + 1), .bool rwr, .int .i64 rsec, .int .i64 rfr, .int .u8 rown] := ⟨hdU, hxU⟩
  have sOf : Hid (∀ {V : World}, Keep none_ U V → Blk V R 118 [.slice (some ⟨gs, 0, none⟩) ns cs, .slice A n cap, .int .u32 ((last : Int) + 1)] ∧ Blk V w.heap.size 44 [.int .u32 ((last : Int) + 1), .bool rwr, .int .i64 rsec, .int .i64 rfr, .int .u8 rown]) := fun hk => ⟨hdU.keep hk id, hxU.keep hk id⟩
  have HHO : Hid (Holds U A n 5 fq) := HHO1.out (Keep.refl _ _)
  have HKU := Lib.hid hkU
  have HDU := Lib.hid hdU
  have HXU : Hid (Blk U w.heap.size 44 xr) := by rw [HXR.out]; exact Lib.hid hxU
  have HLU : Hid (w.heap.size < U.heap.size) := hxU.lt
  have kU : Keep none_ U U := Keep.refl _ _
  clear hkU hdU hxU HHO1
  refine wpAnyX_take (i := 0) (v := ?_) rfl (by kernel_rfl) (by kernel_rfl) (by kernel_rfl) (by kernel_rfl) (by decide) (fun _ _ _ h => h) hS (Or.inl ⟨by rfl, fun W hSW => ?_⟩) ?_
  rotate_left
  { obtain ⟨e0, e1⟩ := hSW
    have f0 := e0.cell_of (i := 0) rfl
    have f1 := e0.cell_of (i := 1) rfl
    have g0 := e1.cell_of (i := 0) rfl
    have g1 := e1.cell_of (i := 1) rfl
    have g2 := e1.cell_of (i := 2) rfl
    have g3 := e1.cell_of (i := 3) rfl
    have g4 := e1.cell_of (i := 4) rfl
    go_simp
    with_reducible rfl }
  refine wpAnyX_take (i := 2) (v := ?_) rfl (by kernel_rfl) (by kernel_rfl) (by kernel_rfl) (by kernel_rfl) (by decide) (fun _ _ _ h => h) hS (Or.inl ⟨by rfl, fun W hSW => ?_⟩) ?_
  rotate_left
  { obtain ⟨e0, e1⟩ := hSW
    have f0 := e0.cell_of (i := 0) rfl
    have f1 := e0.cell_of (i := 1) rfl
    have g0 := e1.cell_of (i := 0) rfl
    have g1 := e1.cell_of (i := 1) rfl
    have g2 := e1.cell_of (i := 2) rfl
    have g3 := e1.cell_of (i := 3) rfl
    have g4 := e1.cell_of (i := 4) rfl
    go_simp
    with_reducible rfl }
  refine wpAnyX_take (i := 3) (v := ?_) rfl (by kernel_rfl) (by kernel_rfl) (by kernel_rfl) (by kernel_rfl) (by decide) (fun _ _ _ h => h) hS (Or.inl ⟨by rfl, fun W hSW => ?_⟩) ?_
  rotate_left
  { obtain ⟨e0, e1⟩ := hSW
    have f0 := e0.cell_of (i := 0) rfl
    have f1 := e0.cell_of (i := 1) rfl
    have g0 := e1.cell_of (i := 0) rfl
    have g1 := e1.cell_of (i := 1) rfl
    have g2 := e1.cell_of (i := 2) rfl
    have g3 := e1.cell_of (i := 3) rfl
    have g4 := e1.cell_of (i := 4) rfl
    go_simp
    with_reducible rfl }
  refine wpAnyX_take (i := 4) (v := ?_) rfl (by kernel_rfl) (by kernel_rfl) (by kernel_rfl) (by kernel_rfl) (by decide) (fun _ _ _ h => h) hS (Or.inl ⟨by rfl, fun W hSW => ?_⟩) ?_
  rotate_left
  { obtain ⟨e0, e1⟩ := hSW
    have f0 := e0.cell_of (i := 0) rfl
    have f1 := e0.cell_of (i := 1) rfl
    have g0 := e1.cell_of (i := 0) rfl
    have g1 := e1.cell_of (i := 1) rfl
    have g2 := e1.cell_of (i := 2) rfl
    have g3 := e1.cell_of (i := 3) rfl
    have g4 := e1.cell_of (i := 4) rfl
    go_simp
    with_reducible rfl }
  refine wpAnyX_take (i := 5) (v := ?_) rfl (by kernel_rfl) (by kernel_rfl) (by kernel_rfl) (by kernel_rfl) (by decide) (fun _ _ _ h => h) hS (Or.inl ⟨by rfl, fun W hSW => ?_⟩) ?_
  rotate_left
  { obtain ⟨e0, e1⟩ := hSW
    have f0 := e0.cell_of (i := 0) rfl
    have f1 := e0.cell_of (i := 1) rfl
    have g0 := e1.cell_of (i := 0) rfl
    have g1 := e1.cell_of (i := 1) rfl
    have g2 := e1.cell_of (i := 2) rfl
    have g3 := e1.cell_of (i := 3) rfl
    have g4 := e1.cell_of (i := 4) rfl
    go_simp
    with_reducible rfl }
  refine wpAnyX_take (i := 7) (v := ?_) rfl (by kernel_rfl) (by kernel_rfl) (by kernel_rfl) (by kernel_rfl) (by decide) (fun _ _ _ h => h) hS (Or.inl ⟨by rfl, fun W hSW => ?_⟩) ?_
  rotate_left
  { obtain ⟨e0, e1⟩ := hSW
    have f0 := e0.cell_of (i := 0) rfl
    have f1 := e0.cell_of (i := 1) rfl
    have g0 := e1.cell_of (i := 0) rfl
    have g1 := e1.cell_of (i := 1) rfl
    have g2 := e1.cell_of (i := 2) rfl
    have g3 := e1.cell_of (i := 3) rfl
    have g4 := e1.cell_of (i := 4) rfl
    go_simp
    with_reducible rfl }
  refine wpAnyX_ready (rs := [1, 8]) (by kernel_rfl) (by simp) ?_
  refine AllX.cons rfl (fun K hK => ?_) ?_
  · go_simp
    refine hK.out _ _ (.inr (sOf.out (kU.alloc _))) ?_
    clear hK K
    obtain ⟨V1, eV1⟩ : ∃ X, X = U.alloc (.cells #[] 44) := ⟨_, rfl⟩
    have kV1 : Keep none_ U V1 := by rw [eV1]; exact kU.alloc _
    have aV1 : Keep none_ U V1 := by rw [eV1]; exact (Keep.refl _ U).alloc _
    have oV1 : V1.ownsRow U.heap.size 44 5 (.slice (some ⟨U.heap.size, 0, none⟩) 0 0) 0 [] := by rw [eV1]; exact World.ownsRow_made (e := 44) (size := 5) (base := U.heap.size) U #[] 0 kU.size (by decide) rfl
    rw [← eV1]
    clear eV1
    refine wpAnyX_ready (rs := [6, 8]) (by kernel_rfl) (by simp) ?_
    refine AllX.cons rfl (fun K hK => ?_) ?_
    · refine step_append_gen rfl _ _ 38 rfl U.heap.size 44 i0 (.agg #[.int .u32 0, .bool false, .int .i64 0, .int .i64 0, .int .u8 0]) 5 32 Try.underlying38 hi0 hz0 hz1 hz2 rfl (by decide) (.slice (some ⟨U.heap.size, 0, none⟩) 0 0) (0) ([]) rfl oV1 A n cap fq rfl (HHO.out.keep kV1 (fun _ _ => id)) HFO.out (by unfold maxLen; omega) (by omega) kV1.size ?_
      intro vV2 V2 oV2 gV2 xV2
      have kkV2 := Keep.of_grown gV2
      have kV2 : Keep none_ U V2 := kV1.thenF kkV2 (fun x hx => .inr (ownsRow_lt oV1 hx).1)
      refine hK.out _ _ (.inr (sOf.out kV2)) ?_
      clear hK K
      refine wpAnyX_ready (rs := [8]) (by kernel_rfl) (by simp) ?_
      refine AllX.cons rfl (fun K hK => ?_) AllX.nil
      go_simp
      refine hK.out _ _ (.inr (sOf.out (kV2.alloc _))) ?_
      clear hK K
      obtain ⟨V3, eV3⟩ : ∃ X, X = V2.alloc (.cells #[.int .u32 ((last : Int) + 1), .bool rwr, .int .i64 rsec, .int .i64 rfr, .int .u8 rown] 44) := ⟨_, rfl⟩
      have kV3 : Keep none_ U V3 := by rw [eV3]; exact kV2.alloc _
      have aV3 : Keep none_ V2 V3 := by rw [eV3]; exact (Keep.refl _ V2).alloc _
      have bV3 : Blk V3 V2.heap.size 44 xr := by rw [eV3, HXR.out]; exact Blk.new V2 44 [.int .u32 ((last : Int) + 1), .bool rwr, .int .i64 rsec, .int .i64 rfr, .int .u8 rown]
      have oV3 := ownsRow_keep oV2 aV3 (fun _ _ => id)
      rw [← eV3]
      clear eV3
      refine wpAnyX_ready (rs := [9]) (by kernel_rfl) (by simp) ?_
      refine AllX.cons rfl (fun K hK => ?_) AllX.nil
      refine step_append_gen rfl _ _ 38 rfl U.heap.size 44 i0 (.agg #[.int .u32 0, .bool false, .int .i64 0, .int .i64 0, .int .u8 0]) 5 32 Try.underlying38 hi0 hz0 hz1 hz2 rfl (by decide) vV2 (0 + n) ([] ++ fq) rfl oV3 (some ⟨V2.heap.size, 0, none⟩) 1 1 xr rfl (.inr ⟨_, rfl, HXL.out, bV3.news⟩) HXO.out (by unfold maxLen; omega) (by omega) kV3.size ?_
      intro vV4 V4 oV4 gV4 xV4
      have kkV4 := Keep.of_grown gV4
      have kV4 : Keep none_ U V4 := kV3.thenF kkV4 (fun x hx => .inr (ownsRow_lt oV3 hx).1)
      obtain ⟨g9, cap9, rfl, _, _⟩ := oV4.form (by omega)
      refine hK.out _ _ (.inr (sOf.out kV4)) ?_
      clear hK K
      refine wpAnyX_ready (rs := [10]) (by kernel_rfl) (by simp) ?_
      refine AllX.cons rfl (fun K hK => ?_) AllX.nil
      go_simp
      refine hK.out _ _ (.inr (sOf.out kV4)) ?_
      clear hK K
      refine wpAnyX_ready (rs := [11]) (by kernel_rfl) (by simp) ?_
      refine AllX.cons rfl (fun K hK => ?_) AllX.nil
      go_simp
      refine hK.out _ _ (.inr (sOf.out kV4)) ?_
      clear hK K
      have d0 := (sOf.out kV4).1.cell_of (i := 1) rfl
      have y0 := (sOf.out kV4).1.frozen 1
      refine wpAnyX_ready (rs := [12]) (by kernel_rfl) (by simp) ?_
      refine AllX.cons rfl (fun K hK => ?_) AllX.nil
      go_simp
      refine hK.out _ _ (.inl rfl) ?_
      clear hK K
      refine wpAnyX_done (by kernel_rfl) ?_ _
      obtain ⟨hF1, hF2, hF3⟩ := HTAIL.out HKU.out HDU.out HXU.out HLU.out kV4 oV4
      rw [HXR.out] at hF3
      have x0 := hF3.cell_of (i := 0) rfl
      simp only [Nat.zero_add] at hF2 x0
      have HF1 := Lib.hid hF1
      have HF2 := Lib.hid hF2
      clear hF1 hF2 hF3 d0 y0
      go_wp2
      go_ret2
      exact ⟨rfl, by have := HF1.out; simpa only [Nat.zero_add] using this, HF2.out⟩
    refine AllX.cons rfl (fun K hK => ?_) AllX.nil
    go_simp
    refine hK.out _ _ (.inr (sOf.out (kV1.alloc _))) ?_
    clear hK K
    obtain ⟨V2, eV2⟩ : ∃ X, X = V1.alloc (.cells #[.int .u32 ((last : Int) + 1), .bool rwr, .int .i64 rsec, .int .i64 rfr, .int .u8 rown] 44) := ⟨_, rfl⟩
    have kV2 : Keep none_ U V2 := by rw [eV2]; exact kV1.alloc _
    have aV2 : Keep none_ V1 V2 := by rw [eV2]; exact (Keep.refl _ V1).alloc _
    have bV2 : Blk V2 V1.heap.size 44 xr := by rw [eV2, HXR.out]; exact Blk.new V1 44 [.int .u32 ((last : Int) + 1), .bool rwr, .int .i64 rsec, .int .i64 rfr, .int .u8 rown]
    have oV2 := ownsRow_keep oV1 aV2 (fun _ _ => id)
    rw [← eV2]
    clear eV2
    have dV2 : ((.slice (some ⟨U.heap.size, 0, none⟩) 0 0) : Value).ownBlock ≠ some V1.heap.size := fun e => by have h1 := (ownsRow_lt oV1 e).2; omega
    refine wpAnyX_ready (rs := [6]) (by kernel_rfl) (by simp) ?_
    refine AllX.cons rfl (fun K hK => ?_) AllX.nil
    refine step_append_gen rfl _ _ 38 rfl U.heap.size 44 i0 (.agg #[.int .u32 0, .bool false, .int .i64 0, .int .i64 0, .int .u8 0]) 5 32 Try.underlying38 hi0 hz0 hz1 hz2 rfl (by decide) (.slice (some ⟨U.heap.size, 0, none⟩) 0 0) (0) ([]) rfl oV2 A n cap fq rfl (HHO.out.keep kV2 (fun _ _ => id)) HFO.out (by unfold maxLen; omega) (by omega) kV2.size ?_
    intro vV3 V3 oV3 gV3 xV3
    have kkV3 := Keep.of_grown gV3
    have kV3 : Keep none_ U V3 := kV2.thenF kkV3 (fun x hx => .inr (ownsRow_lt oV2 hx).1)
    have bV3 := bV2.keep kkV3 (fun e => (dV2) e)
    refine hK.out _ _ (.inr (sOf.out kV3)) ?_
    clear hK K
    refine wpAnyX_ready (rs := [9]) (by kernel_rfl) (by simp) ?_
    refine AllX.cons rfl (fun K hK => ?_) AllX.nil
    refine step_append_gen rfl _ _ 38 rfl U.heap.size 44 i0 (.agg #[.int .u32 0, .bool false, .int .i64 0, .int .i64 0, .int .u8 0]) 5 32 Try.underlying38 hi0 hz0 hz1 hz2 rfl (by decide) vV3 (0 + n) ([] ++ fq) rfl oV3 (some ⟨V1.heap.size, 0, none⟩) 1 1 xr rfl (.inr ⟨_, rfl, HXL.out, bV3.news⟩) HXO.out (by unfold maxLen; omega) (by omega) kV3.size ?_
    intro vV4 V4 oV4 gV4 xV4
    have kkV4 := Keep.of_grown gV4
    have kV4 : Keep none_ U V4 := kV3.thenF kkV4 (fun x hx => .inr (ownsRow_lt oV3 hx).1)
    obtain ⟨g9, cap9, rfl, _, _⟩ := oV4.form (by omega)
    refine hK.out _ _ (.inr (sOf.out kV4)) ?_
    clear hK K
    refine wpAnyX_ready (rs := [10]) (by kernel_rfl) (by simp) ?_
    refine AllX.cons rfl (fun K hK => ?_) AllX.nil
    go_simp
    refine hK.out _ _ (.inr (sOf.out kV4)) ?_
    clear hK K
    refine wpAnyX_ready (rs := [11]) (by kernel_rfl) (by simp) ?_
    refine AllX.cons rfl (fun K hK => ?_) AllX.nil
    go_simp
    refine hK.out _ _ (.inr (sOf.out kV4)) ?_
    clear hK K
    have d0 := (sOf.out kV4).1.cell_of (i := 1) rfl
    have y0 := (sOf.out kV4).1.frozen 1
    refine wpAnyX_ready (rs := [12]) (by kernel_rfl) (by simp) ?_
    refine AllX.cons rfl (fun K hK => ?_) AllX.nil
    go_simp
    refine hK.out _ _ (.inl rfl) ?_
    clear hK K
    refine wpAnyX_done (by kernel_rfl) ?_ _
    obtain ⟨hF1, hF2, hF3⟩ := HTAIL.out HKU.out HDU.out HXU.out HLU.out kV4 oV4
    rw [HXR.out] at hF3
    have x0 := hF3.cell_of (i := 0) rfl
    simp only [Nat.zero_add] at hF2 x0
    have HF1 := Lib.hid hF1
    have HF2 := Lib.hid hF2
    clear hF1 hF2 hF3 d0 y0
    go_wp2
    go_ret2
    exact ⟨rfl, by have := HF1.out; simpa only [Nat.zero_add] using this, HF2.out⟩
  refine AllX.cons rfl (fun K hK => ?_) AllX.nil
  go_simp
  refine hK.out _ _ (.inr (sOf.out (kU.alloc _))) ?_
  clear hK K
  obtain ⟨V1, eV1⟩ : ∃ X, X = U.alloc (.cells #[.int .u32 ((last : Int) + 1), .bool rwr, .int .i64 rsec, .int .i64 rfr, .int .u8 rown] 44) := ⟨_, rfl⟩
  have kV1 : Keep none_ U V1 := by rw [eV1]; exact kU.alloc _
  have aV1 : Keep none_ U V1 := by rw [eV1]; exact (Keep.refl _ U).alloc _
  have bV1 : Blk V1 U.heap.size 44 xr := by rw [eV1, HXR.out]; exact Blk.new U 44 [.int .u32 ((last : Int) + 1), .bool rwr, .int .i64 rsec, .int .i64 rfr, .int .u8 rown]
  rw [← eV1]
  clear eV1
  refine wpAnyX_ready (rs := [1]) (by kernel_rfl) (by simp) ?_
  refine AllX.cons rfl (fun K hK => ?_) AllX.nil
  go_simp
  refine hK.out _ _ (.inr (sOf.out (kV1.alloc _))) ?_
  clear hK K
  obtain ⟨V2, eV2⟩ : ∃ X, X = V1.alloc (.cells #[] 44) := ⟨_, rfl⟩
  have kV2 : Keep none_ U V2 := by rw [eV2]; exact kV1.alloc _
  have aV2 : Keep none_ V1 V2 := by rw [eV2]; exact (Keep.refl _ V1).alloc _
  have oV2 : V2.ownsRow U.heap.size 44 5 (.slice (some ⟨V1.heap.size, 0, none⟩) 0 0) 0 [] := by rw [eV2]; exact World.ownsRow_made (e := 44) (size := 5) (base := U.heap.size) V1 #[] 0 kV1.size (by decide) rfl
  have bV2 := bV1.keep aV2 id
  rw [← eV2]
  clear eV2
  have dV2 : ((.slice (some ⟨V1.heap.size, 0, none⟩) 0 0) : Value).ownBlock ≠ some U.heap.size := fun e => by have h0 := bV1.lt; injection e with e; have e2 : V1.heap.size = U.heap.size := e; omega
  refine wpAnyX_ready (rs := [6]) (by kernel_rfl) (by simp) ?_
  refine AllX.cons rfl (fun K hK => ?_) AllX.nil
  refine step_append_gen rfl _ _ 38 rfl U.heap.size 44 i0 (.agg #[.int .u32 0, .bool false, .int .i64 0, .int .i64 0, .int .u8 0]) 5 32 Try.underlying38 hi0 hz0 hz1 hz2 rfl (by decide) (.slice (some ⟨V1.heap.size, 0, none⟩) 0 0) (0) ([]) rfl oV2 A n cap fq rfl (HHO.out.keep kV2 (fun _ _ => id)) HFO.out (by unfold maxLen; omega) (by omega) kV2.size ?_
  intro vV3 V3 oV3 gV3 xV3
  have kkV3 := Keep.of_grown gV3
  have kV3 : Keep none_ U V3 := kV2.thenF kkV3 (fun x hx => .inr (ownsRow_lt oV2 hx).1)
  have bV3 := bV2.keep kkV3 (fun e => (dV2) e)
  refine hK.out _ _ (.inr (sOf.out kV3)) ?_
  clear hK K
  refine wpAnyX_ready (rs := [9]) (by kernel_rfl) (by simp) ?_
  refine AllX.cons rfl (fun K hK => ?_) AllX.nil
  refine step_append_gen rfl _ _ 38 rfl U.heap.size 44 i0 (.agg #[.int .u32 0, .bool false, .int .i64 0, .int .i64 0, .int .u8 0]) 5 32 Try.underlying38 hi0 hz0 hz1 hz2 rfl (by decide) vV3 (0 + n) ([] ++ fq) rfl oV3 (some ⟨U.heap.size, 0, none⟩) 1 1 xr rfl (.inr ⟨_, rfl, HXL.out, bV3.news⟩) HXO.out (by unfold maxLen; omega) (by omega) kV3.size ?_
  intro vV4 V4 oV4 gV4 xV4
  have kkV4 := Keep.of_grown gV4
  have kV4 : Keep none_ U V4 := kV3.thenF kkV4 (fun x hx => .inr (ownsRow_lt oV3 hx).1)
  obtain ⟨g9, cap9, rfl, _, _⟩ := oV4.form (by omega)
  refine hK.out _ _ (.inr (sOf.out kV4)) ?_
  clear hK K
  refine wpAnyX_ready (rs := [10]) (by kernel_rfl) (by simp) ?_
  refine AllX.cons rfl (fun K hK => ?_) AllX.nil
  go_simp
  refine hK.out _ _ (.inr (sOf.out kV4)) ?_
  clear hK K
  refine wpAnyX_ready (rs := [11]) (by kernel_rfl) (by simp) ?_
  refine AllX.cons rfl (fun K hK => ?_) AllX.nil
  go_simp
  refine hK.out _ _ (.inr (sOf.out kV4)) ?_
  clear hK K
  have d0 := (sOf.out kV4).1.cell_of (i := 1) rfl
  have y0 := (sOf.out kV4).1.frozen 1
  refine wpAnyX_ready (rs := [12]) (by kernel_rfl) (by simp) ?_
  refine AllX.cons rfl (fun K hK => ?_) AllX.nil
  go_simp
  refine hK.out _ _ (.inl rfl) ?_
  clear hK K
  refine wpAnyX_done (by kernel_rfl) ?_ _
  obtain ⟨hF1, hF2, hF3⟩ := HTAIL.out HKU.out HDU.out HXU.out HLU.out kV4 oV4
  rw [HXR.out] at hF3
  have x0 := hF3.cell_of (i := 0) rfl
  simp only [Nat.zero_add] at hF2 x0
  have HF1 := Lib.hid hF1
  have HF2 := Lib.hid hF2
  clear hF1 hF2 hF3 d0 y0
  go_wp2
  go_ret2
  exact ⟨rfl, by have := HF1.out; simpa only [Nat.zero_add] using this, HF2.out⟩
end
end Go.Proofs.Ytjlenocmfeggdaa
