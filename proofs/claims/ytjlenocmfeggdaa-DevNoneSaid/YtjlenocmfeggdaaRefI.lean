/- The document's Deliver: the frame is not there. -/
import Derived.Test.YtjlenocmfeggdaaRefH
import Derived.Test.YtjlenocmfeggdaaImpM
import Derived.IntWalk
namespace Go.Proofs.Ytjlenocmfeggdaa
open Go.RowKit
attribute [local go_sem] cell_alloc_some frozen_alloc_some
section
variable {w : World} {R M : Nat} {S : St} {v sv bv : Value} {iv : Nat → Value} {W F : Nat → Prop}
theorem RepR.pop (h : RepR w R M S v sv bv iv W F) (hFl : ∀ b, F b → b < w.heap.size) {i : Nat} (hi : i < S.q.length) (r : Req) {U0 U V : World} {v2 : Value} (k0 : Keep none_ w U0) (hx : Blk U0 (w.heap.size + 1) 44 (reqc r)) (hz : Blk U0 w.heap.size 44 zero44c) (kU : Keep none_ U0 U) (kV : Keep none_ U V)
    (ho : V.ownsRow U.heap.size 44 5 v2 (0 + i + (S.q.length - (i + 1))) ([] ++ flatQ (S.q.take i) ++ flatQ (S.q.drop (i + 1)))) : RMid w (V.setCell ⟨R, 1, none⟩ v2) R M (S.pop i) sv bv W F r (w.heap.size + 1) := by
  have hU := h.keep0 (k0.trans kU)
  have hsU : w.heap.size + 2 ≤ U.heap.size := by have h1 := hx.lt; have h2 := kU.size; omega
  have dV := hU.disk.keep kV id
  have kD : Keep (· = R) V (V.setCell ⟨R, 1, none⟩ v2) := Keep.setCell (S := (· = R)) (p := ⟨R, 1, none⟩) (Keep.refl _ V) (.inl rfl) _
  have hRl := h.disk.lt
  have hq2 : (V.setCell ⟨R, 1, none⟩ v2).ownsRow 0 44 5 v2 (S.pop i).q.length (flatQ (S.pop i).q) := by
    have h1 := ownsRow_base (ownsRow_keep ho kD (fun b hb e => own_ne ho dV (by decide) (by rw [hb, e]))) (Nat.zero_le _)
    rw [List.nil_append, ← flatQ_append, ← List.eraseIdx_eq_take_drop_succ] at h1
    have e : (S.pop i).q.length = 0 + i + (S.q.length - (i + 1)) := by show (S.q.eraseIdx i).length = _; rw [List.length_eraseIdx_of_lt hi]; omega
    rw [e]; exact h1
  have kW : Keep (· = R) U (V.setCell ⟨R, 1, none⟩ v2) := (kV.mono (fun _ hx => hx.elim)).trans kD
  refine ⟨⟨v2, iv, ext F U (V.setCell ⟨R, 1, none⟩ v2), hU.qset kW (h.inv.pop i) rfl rfl rfl rfl (dV.set_ 1 v2) hq2 (fun g hg => .inr (ownsRow_lt ho hg).1), fun b hb => ?_⟩, ((hz.keep kU id).keep kV id).keep kD (by omega), ((hx.keep kU id).keep kV id).keep kD (by omega), by omega, ((k0.trans kU).mono (fun _ hx => hx.elim)).thenF kW (fun b hb => .inl (by subst hb; exact h.wR))⟩
  rcases hb with hb | hb
  · exact ⟨.inl hb, by have := hFl b hb; have := kW.size; omega⟩
  · exact ⟨.inr (by omega), hb.2⟩
set_option maxRecDepth 100000 in
set_option maxHeartbeats 4000000 in
theorem rdeliver_fault (h : RepR w R M S v sv bv iv W F) (hFl : ∀ b, F b → b < w.heap.size) (i : Nat) (hi : i < S.q.length) (r : Req) (hr : S.q[i]? = some r) (hf : (S.nf : Int) ≤ r.fr) :
    Calls Try.prog 61 #[.pointer (some ⟨R, 0, none⟩), .int .i64 i, .pointer (some ⟨M, 0, none⟩)] w fun e w' => e = .returned (.tuple #[.agg (reqc r).toArray, .int .i64 10]) ∧ (∃ v' iv', RepR w' R M (S.pop i) v' sv bv iv' W (ext F w w')) ∧ Keep W w w' := by
  obtain ⟨i0, hi0, hz0, hz1, hz2⟩ := info_parts info44
  obtain ⟨gq, cap, hvq, _, _⟩ := h.que.form (by omega)
  subst hvq
  have hcap : S.q.length ≤ cap := by
    obtain ⟨A, c, hv, h1, _⟩ := own_form h.que
    injection hv with _ _ e
    subst e
    exact h1
  have hq8 := h.inv.q8
  have c1 := h.disk.cell_of (i := 1) rfl
  obtain ⟨q0, q1, q2, q3, q4⟩ := own_reqCells h.que hr
  have HD := Lib.hid h.disk
  have HPOP : Hid (∀ {U0 U V : World} {v2 : Value}, Keep none_ w U0 → Blk U0 (w.heap.size + 1) 44 (reqc r) → Blk U0 w.heap.size 44 zero44c → Keep none_ U0 U → Keep none_ U V → V.ownsRow U.heap.size 44 5 v2 (0 + i + (S.q.length - (i + 1))) ([] ++ flatQ (S.q.take i) ++ flatQ (S.q.drop (i + 1))) → RMid w (V.setCell ⟨R, 1, none⟩ v2) R M (S.pop i) sv bv W F r (w.heap.size + 1)) := fun k0 hx hz kU kV ho => h.pop hFl hi r k0 hx hz kU kV ho
  have HFIN : Hid (∀ {V : World} {S' : St}, RMid w V R M S' sv bv W F r (w.heap.size + 1) → _) := fun hm => hm.done hFl
  have HL1 : Hid (w.ownsRow 0 44 5 (.slice (some ⟨gq, 0, none⟩) i cap) i (flatQ (S.q.take i))) := by have := own_cut h.que (Nat.le_of_lt hi); rw [flatQ_take] at this; exact this
  have hAA : ∃ A : Addr, (if cap = i + 1 then some (⟨gq, 0, none⟩ : Addr) else some ⟨gq, (i + 1) * 5, none⟩) = some A ∧ Holds w (some A) (S.q.length - (i + 1)) 5 (flatQ (S.q.drop (i + 1))) := by
    have hl : (flatQ (S.q.drop (i + 1))).length = (S.q.length - (i + 1)) * 5 := by rw [flatQ_len, List.length_drop]
    by_cases hci : cap = i + 1
    · refine ⟨_, if_pos hci, .inr ⟨_, rfl, hl, fun j u hu => ?_⟩⟩
      rw [List.drop_of_length_le (by omega)] at hu
      simp [flatQ] at hu
    · refine ⟨_, if_neg hci, .inr ⟨_, rfl, hl, fun j u hu => ?_⟩⟩
      have hu2 : (flatQ S.q)[(i + 1) * 5 + j]? = some u := by rw [← flatQ_drop, List.getElem?_drop] at hu; exact hu
      have := ownsRow_cell h.que hu2
      rw [Addr.add_mid] at this ⊢
      rw [Nat.zero_add] at this
      exact this
  obtain ⟨A, hA, hH2⟩ := hAA
  have HA := Lib.hid hA
  have HH2 := Lib.hid hH2
  have HO1 := Lib.hid (flatQ_one (S.q.take i))
  have HO2 := Lib.hid (flatQ_one (S.q.drop (i + 1)))
  have hRl := h.disk.lt
  have H2 : Hid (∀ {V : World}, RMid w V R M (S.pop i) sv bv W F r (w.heap.size + 1) → Calls Try.prog 55 #[.pointer (some ⟨M, 0, none⟩), .int .i64 r.fr] V fun e w' => e = .returned (.tuple #[.slice none 0 0, .int .i64 2]) ∧ V = w') := fun hm => by
    obtain ⟨v', iv', F', hrep, _⟩ := hm.rep
    exact rframe_err hrep r.fr (.inr hf)
  clear h hr hA hH2
  generalize flatQ (S.q.drop (i + 1)) = x2 at *
  generalize flatQ (S.q.take i) = x1 at *
  generalize S.pop i = S1 at *
  generalize S.q.length = n at *
  have hn : (n : Int) ≤ 8 := by omega
  have j0 : ¬ ((i : Int) < 0) := by omega
  have j1 : ¬ ((i : Int) ≥ n) := by omega
  have j2 : (i : Int) ≤ 8 := by omega
  have j3 : (0 : Int) ≤ (i : Int) := by omega
  have j4 : (i : Int) < (n : Int) := by omega
  have j5 : (i : Int) + 1 ≤ (n : Int) := by omega
  have j6 : (i : Int) ≤ (cap : Int) := by omega
  have j7 : (0 : Int) ≤ (i : Int) + 1 := by omega
  have j8 : IntKind.i64.wrap ((i : Int) + 1) = (i : Int) + 1 := IntWalk.i64_in _ (by omega)
  obtain ⟨rid, rwr, rsec, rfr, rown⟩ := r
  unfold reqc zero44c at *
  simp only at *
  go_enter Try.func61, Try.ntmps61
  go_wp2_with fail
  have k0 : Keep none_ w ((w.alloc (.cells #[.int .u32 0, .bool false, .int .i64 0, .int .i64 0, .int .u8 0] 44)).alloc (.cells #[.int .u32 rid, .bool rwr, .int .i64 rsec, .int .i64 rfr, .int .u8 rown] 44)) := ((Keep.refl _ w).alloc _).alloc _
  have hx : Blk ((w.alloc (.cells #[.int .u32 0, .bool false, .int .i64 0, .int .i64 0, .int .u8 0] 44)).alloc (.cells #[.int .u32 rid, .bool rwr, .int .i64 rsec, .int .i64 rfr, .int .u8 rown] 44)) (w.heap.size + 1) 44 [.int .u32 rid, .bool rwr, .int .i64 rsec, .int .i64 rfr, .int .u8 rown] := by
    have := Blk.new (w.alloc (.cells #[.int .u32 0, .bool false, .int .i64 0, .int .i64 0, .int .u8 0] 44)) 44 [.int .u32 rid, .bool rwr, .int .i64 rsec, .int .i64 rfr, .int .u8 rown]
    rw [World.size_alloc] at this
    exact this
  have hz : Blk ((w.alloc (.cells #[.int .u32 0, .bool false, .int .i64 0, .int .i64 0, .int .u8 0] 44)).alloc (.cells #[.int .u32 rid, .bool rwr, .int .i64 rsec, .int .i64 rfr, .int .u8 rown] 44)) w.heap.size 44 [.int .u32 0, .bool false, .int .i64 0, .int .i64 0, .int .u8 0] := (Blk.new w 44 [.int .u32 0, .bool false, .int .i64 0, .int .i64 0, .int .u8 0]).alloc _
  generalize (w.alloc (.cells #[.int .u32 0, .bool false, .int .i64 0, .int .i64 0, .int .u8 0] 44)).alloc (.cells #[.int .u32 rid, .bool rwr, .int .i64 rsec, .int .i64 rfr, .int .u8 rown] 44) = U0 at *
  have HK0 := Lib.hid k0
  have HX := Lib.hid hx
  have HZ := Lib.hid hz
  clear k0 hx hz c1 q0 q1 q2 q3 q4
  refine wp_region_X (S := fun V => Blk V R 118 [sv, .slice (some ⟨gq, 0, none⟩) n cap, .int .u32 S.last]) (last := 19) (by kernel_rfl) ?_
  obtain ⟨U, hU⟩ : ∃ U, U = U0.drew := ⟨_, rfl⟩
  have kU0 : Keep none_ U0 U := by rw [hU]; exact (Keep.refl _ U0).drew
  rw [← hU]
  clear hU
  have kU : Keep none_ U U := Keep.refl _ _
  have sOf : Hid (∀ {V : World}, Keep none_ U V → Blk V R 118 [sv, .slice (some ⟨gq, 0, none⟩) n cap, .int .u32 S.last]) := fun hk => HD.out.keep ((HK0.out.trans kU0).trans hk) id
  have hS := sOf.out kU
  refine wpAnyX_take (i := 0) (v := ?_) rfl (by kernel_rfl) (by kernel_rfl) (by kernel_rfl) (by kernel_rfl) (by decide) (fun _ _ _ h => h) hS (Or.inl ⟨by rfl, fun W hSW => ?_⟩) ?_
  rotate_left
  { have e0 := hSW
    have f0 := e0.cell_of (i := 1) rfl
    go_simp
    with_reducible rfl }
  refine wpAnyX_take (i := 2) (v := ?_) rfl (by kernel_rfl) (by kernel_rfl) (by kernel_rfl) (by kernel_rfl) (by decide) (fun _ _ _ h => h) hS (Or.inl ⟨by rfl, fun W hSW => ?_⟩) ?_
  rotate_left
  { have e0 := hSW
    have f0 := e0.cell_of (i := 1) rfl
    go_simp
    with_reducible rfl }
  refine wpAnyX_take (i := 3) (v := ?_) rfl (by kernel_rfl) (by kernel_rfl) (by kernel_rfl) (by kernel_rfl) (by decide) (fun _ _ _ h => h) hS (Or.inl ⟨by rfl, fun W hSW => ?_⟩) ?_
  rotate_left
  { have e0 := hSW
    have f0 := e0.cell_of (i := 1) rfl
    go_simp
    with_reducible rfl }
  refine wpAnyX_take (i := 4) (v := ?_) rfl (by kernel_rfl) (by kernel_rfl) (by kernel_rfl) (by kernel_rfl) (by decide) (fun _ _ _ h => h) hS (Or.inl ⟨by rfl, fun W hSW => ?_⟩) ?_
  rotate_left
  { have e0 := hSW
    have f0 := e0.cell_of (i := 1) rfl
    go_simp
    with_reducible rfl }
  refine wpAnyX_take (i := 5) (v := ?_) rfl (by kernel_rfl) (by kernel_rfl) (by kernel_rfl) (by kernel_rfl) (by decide) (fun _ _ _ h => h) hS (Or.inl ⟨by rfl, fun W hSW => ?_⟩) ?_
  rotate_left
  { have e0 := hSW
    have f0 := e0.cell_of (i := 1) rfl
    go_simp
    with_reducible rfl }
  refine wpAnyX_take (i := 6) (v := ?_) rfl (by kernel_rfl) (by kernel_rfl) (by kernel_rfl) (by kernel_rfl) (by decide) (fun _ _ _ h => h) hS (Or.inl ⟨by rfl, fun W hSW => ?_⟩) ?_
  rotate_left
  { have e0 := hSW
    have f0 := e0.cell_of (i := 1) rfl
    go_simp
    with_reducible rfl }
  refine wpAnyX_take (i := 7) (v := ?_) rfl (by kernel_rfl) (by kernel_rfl) (by kernel_rfl) (by kernel_rfl) (by decide) (fun _ _ _ h => h) hS (Or.inl ⟨by rfl, fun W hSW => ?_⟩) ?_
  rotate_left
  { have e0 := hSW
    have f0 := e0.cell_of (i := 1) rfl
    go_simp
    with_reducible rfl }
  refine wpAnyX_take (i := 9) (v := ?_) rfl (by kernel_rfl) (by kernel_rfl) (by kernel_rfl) (by kernel_rfl) (by decide) (fun _ _ _ h => h) hS (Or.inl ⟨by rfl, fun W hSW => ?_⟩) ?_
  rotate_left
  { have e0 := hSW
    have f0 := e0.cell_of (i := 1) rfl
    go_simp
    with_reducible rfl }
  refine wpAnyX_take (i := 10) (v := ?_) rfl (by kernel_rfl) (by kernel_rfl) (by kernel_rfl) (by kernel_rfl) (by decide) (fun _ _ _ h => h) hS (Or.inl ⟨by rfl, fun W hSW => ?_⟩) ?_
  rotate_left
  { have e0 := hSW
    have f0 := e0.cell_of (i := 1) rfl
    go_simp
    with_reducible rfl }
  refine wpAnyX_take (i := 11) (v := ?_) rfl (by kernel_rfl) (by kernel_rfl) (by kernel_rfl) (by kernel_rfl) (by decide) (fun _ _ _ h => h) hS (Or.inl ⟨by rfl, fun W hSW => ?_⟩) ?_
  rotate_left
  { have e0 := hSW
    have f0 := e0.cell_of (i := 1) rfl
    go_simp
    with_reducible rfl }
  refine wpAnyX_take (i := 12) (v := ?_) rfl (by kernel_rfl) (by kernel_rfl) (by kernel_rfl) (by kernel_rfl) (by decide) (fun _ _ _ h => h) hS (Or.inl ⟨by rfl, fun W hSW => ?_⟩) ?_
  rotate_left
  { have e0 := hSW
    have f0 := e0.cell_of (i := 1) rfl
    go_simp
    with_reducible rfl }
  refine wpAnyX_take (i := 13) (v := ?_) rfl (by kernel_rfl) (by kernel_rfl) (by kernel_rfl) (by kernel_rfl) (by decide) (fun _ _ _ h => h) hS (Or.inl ⟨by rfl, fun W hSW => ?_⟩) ?_
  rotate_left
  { have e0 := hSW
    have f0 := e0.cell_of (i := 1) rfl
    go_simp
    with_reducible rfl }
  refine wpAnyX_take (i := 14) (v := ?_) rfl (by kernel_rfl) (by kernel_rfl) (by kernel_rfl) (by kernel_rfl) (by decide) (fun _ _ _ h => h) hS (Or.inl ⟨by rfl, fun W hSW => ?_⟩) ?_
  rotate_left
  { have e0 := hSW
    have f0 := e0.cell_of (i := 1) rfl
    go_simp
    with_reducible rfl }
  refine wpAnyX_take (i := 15) (v := ?_) rfl (by kernel_rfl) (by kernel_rfl) (by kernel_rfl) (by kernel_rfl) (by decide) (fun _ _ _ h => h) hS (Or.inl ⟨by rfl, fun W hSW => ?_⟩) ?_
  rotate_left
  { have e0 := hSW
    have f0 := e0.cell_of (i := 1) rfl
    go_simp
    with_reducible rfl }
  refine wpAnyX_ready (rs := [1]) (by kernel_rfl) (by simp) ?_
  refine AllX.cons rfl (fun K hK => ?_) AllX.nil
  go_simp
  refine hK.out _ _ (.inr (sOf.out (kU.alloc _))) ?_
  clear hK K
  obtain ⟨V1, eV1⟩ : ∃ X, X = U.alloc (.cells #[] 44) := ⟨_, rfl⟩
  have kV1 : Keep none_ U V1 := by rw [eV1]; exact kU.alloc _
  have oV1 : V1.ownsRow U.heap.size 44 5 (.slice (some ⟨U.heap.size, 0, none⟩) 0 0) 0 [] := by rw [eV1]; exact World.ownsRow_made (e := 44) (size := 5) (base := U.heap.size) U #[] 0 kU.size (by decide) rfl
  rw [← eV1]
  clear eV1
  refine wpAnyX_ready (rs := [8]) (by kernel_rfl) (by simp) ?_
  refine AllX.cons rfl (fun K hK => ?_) AllX.nil
  refine step_append_gen (by rfl) _ _ 38 (by rfl) U.heap.size 44 i0 (.agg #[.int .u32 0, .bool false, .int .i64 0, .int .i64 0, .int .u8 0]) 5 32 Try.underlying38 hi0 hz0 hz1 hz2 rfl (by decide) (.slice (some ⟨U.heap.size, 0, none⟩) 0 0) 0 [] ?hs oV1 (some ⟨gq, 0, none⟩) i cap x1 ?hx ((Holds.of_own HL1.out).keep ((HK0.out.trans kU0).trans kV1) (fun _ _ => id)) HO1.out (by unfold maxLen; omega) (by omega) kV1.size ?_
  case hs => go_simp
  case hx => go_simp
  intro v2 V2 oV2 gV2 _
  have kV2 : Keep none_ U V2 := kV1.thenF (Keep.of_grown gV2) (fun x hx => .inr (by injection hx with hx; exact Nat.le_of_eq hx))
  refine hK.out _ _ (.inr (sOf.out kV2)) ?_
  clear hK K
  refine wpAnyX_ready (rs := [16]) (by kernel_rfl) (by simp) ?_
  refine AllX.cons rfl (fun K hK => ?_) AllX.nil
  refine step_append_gen (by rfl) _ _ 38 (by rfl) U.heap.size 44 i0 (.agg #[.int .u32 0, .bool false, .int .i64 0, .int .i64 0, .int .u8 0]) 5 32 Try.underlying38 hi0 hz0 hz1 hz2 rfl (by decide) v2 (0 + i) ([] ++ x1) ?hs2 oV2 (some A) (n - (i + 1)) (cap - (i + 1)) x2 ?hx2 (HH2.out.keep ((HK0.out.trans kU0).trans kV2) (fun _ _ => id)) HO2.out (by unfold maxLen; omega) (by omega) kV2.size ?_
  case hs2 => go_simp
  case hx2 => (go_simp; exact HA.out)
  intro v3 V3 oV3 gV3 _
  have kV3 : Keep none_ U V3 := kV2.thenF (Keep.of_grown gV3) (fun x hx => .inr (ownsRow_lt oV2 hx).1)
  refine hK.out _ _ (.inr (sOf.out kV3)) ?_
  clear hK K
  obtain ⟨A3, c3, rfl, _, _⟩ := own_form oV3
  refine wpAnyX_ready (rs := [17]) (by kernel_rfl) (by simp) ?_
  refine AllX.cons rfl (fun K hK => ?_) AllX.nil
  go_simp
  refine hK.out _ _ (.inr (sOf.out kV3)) ?_
  clear hK K
  refine wpAnyX_ready (rs := [18]) (by kernel_rfl) (by simp) ?_
  refine AllX.cons rfl (fun K hK => ?_) AllX.nil
  go_simp
  refine hK.out _ _ (.inr (sOf.out kV3)) ?_
  clear hK K
  have d0 := (sOf.out kV3).cell_of (i := 1) rfl
  have y0 := (sOf.out kV3).frozen 1
  have HM := Lib.hid (HPOP.out HK0.out HX.out HZ.out kU0 kV3 oV3)
  refine wpAnyX_ready (rs := [19]) (by kernel_rfl) (by simp) ?_
  refine AllX.cons rfl (fun K hK => ?_) AllX.nil
  go_simp
  refine hK.out _ _ (.inl rfl) ?_
  clear hK K
  refine wpAnyX_done (by kernel_rfl) ?_ _
  simp only [Nat.zero_add] at HM ⊢
  generalize i + (n - (i + 1)) = nn at *
  generalize (if cap = i + 1 then some (⟨gq, 0, none⟩ : Addr) else some ⟨gq, (i + 1) * 5, none⟩) = B at *
  clear d0 y0 oV3 gV3 kV3 oV2 gV2 kV2 oV1 kV1 hS HA HH2 HL1 HO1 HO2 HPOP sOf kU kU0 HX HZ HK0 HD j8
  generalize V3.setCell ⟨R, 1, none⟩ (.slice A3 nn c3) = V4 at *
  have x3 := HM.out.box.cell_of (i := 3) rfl
  go_wp2_with fail
  refine (H2.out HM.out).mono ?_
  rintro e V5 ⟨rfl, rfl⟩
  have x0 := HM.out.box.cell_of (i := 0) rfl
  have x1 := HM.out.box.cell_of (i := 1) rfl
  have x2 := HM.out.box.cell_of (i := 2) rfl
  have x3 := HM.out.box.cell_of (i := 3) rfl
  have x4 := HM.out.box.cell_of (i := 4) rfl
  have z0 := HM.out.res.cell_of (i := 0) rfl
  have z1 := HM.out.res.cell_of (i := 1) rfl
  have z2 := HM.out.res.cell_of (i := 2) rfl
  have z3 := HM.out.res.cell_of (i := 3) rfl
  have z4 := HM.out.res.cell_of (i := 4) rfl
  have f0 := HM.out.res.frozen 0
  have f1 := HM.out.res.frozen 1
  have f2 := HM.out.res.frozen 2
  have f3 := HM.out.res.frozen 3
  have f4 := HM.out.res.frozen 4
  go_wp2
  obtain ⟨hR, hB, hK⟩ := HFIN.out HM.out
  unfold fin5 at hR hB hK
  have v0 := hB.cell_of (i := 0) rfl
  have v1 := hB.cell_of (i := 1) rfl
  have v2 := hB.cell_of (i := 2) rfl
  have v3 := hB.cell_of (i := 3) rfl
  have v4 := hB.cell_of (i := 4) rfl
  exact bodyPost_ret (v := .tuple #[.agg #[.int .u32 rid, .bool rwr, .int .i64 rsec, .int .i64 rfr, .int .u8 rown], .int .i64 10]) (by simp [results, Try.results61, go_sem, v0, v1, v2, v3, v4]) rfl ⟨rfl, hR, hK⟩
end
end Go.Proofs.Ytjlenocmfeggdaa
