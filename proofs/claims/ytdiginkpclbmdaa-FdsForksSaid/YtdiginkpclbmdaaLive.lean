/- The walk of live. -/
import Derived.Test.YtdiginkpclbmdaaDoB
namespace Go.Proofs.Ytdiginkpclbmdaa
open Go.RowKit
attribute [local go_sem] cell_alloc_some frozen_alloc_some
theorem One.enter {a w w' : World} {T : Nat} {S : St} {G : Nat → Prop} (h : One a w T S G) (hk : Keep (fun _ => False) w w') : One w' w' T S (mid a w G) := by
  obtain ⟨FT, h1, h4, h6⟩ := h
  exact ⟨FT, h1.keep0 hk, fun b hb => ⟨Nat.lt_of_lt_of_le (h4 b hb).1 hk.size, .inl ⟨(h4 b hb).2, (h4 b hb).1⟩⟩, Keep.refl _ _⟩
theorem One.leave {a w a' w0 : World} {T : Nat} {S : St} {G : Nat → Prop} (h : One a' w T S (mid a w0 G)) (hk : Keep (fun _ => False) w0 a') (h0 : Keep G a w0) : One a w T S G := by
  obtain ⟨FT, h1, h4, h6⟩ := h
  have e1 := hk.size
  have e2 := h0.size
  have key : ∀ b, (mid a w0 G b ∨ a'.heap.size ≤ b) → G b ∨ a.heap.size ≤ b := fun b hb => by
    rcases hb with hb | hb
    · exact hb.1
    · exact .inr (by omega)
  exact ⟨FT, h1, fun b hb => ⟨(h4 b hb).1, key b (h4 b hb).2⟩, (h0.trans (hk.mono fun _ => False.elim)).thenF h6 fun x hx => hx.1⟩
def none_ : Nat → Prop := fun _ => False
theorem One.new {a : World} (w : World) (hk : Keep none_ a w) : Calls Try.prog 9 #[] w fun e w' => ∃ T, e = .returned (.pointer (some ⟨T, 0, none⟩)) ∧ One a w' T St.init none_ := by
  refine (new_any w).mono ?_
  rintro e w' ⟨T, rfl, hr, hk1, hs⟩
  have := hk.size
  exact ⟨T, rfl, _, hr, fun b hb => ⟨by omega, .inr (by omega)⟩, hk.trans (hk1.mono fun _ => False.elim)⟩
def o13 : Op3 := ⟨1, 3, 0⟩
def L1 : St := beginS St.init 0
def L2 : St := openS L1 0 o13
def L3 : St := dupS L2 0 0
def L4 : St := moveS L3 0 1 5
def L5 : St := closeS L4 0 0
theorem live_plain : freshE St.init 0 = 0 ∧ openE L1 0 o13 = (0, 0) ∧ dupE L2 0 0 = (1, 0) ∧ atE L3 0 1 = 0 ∧ getE L4 0 0 = ⟨1, 3, 5⟩ ∧ atE L4 0 0 = 0 ∧ closeE L4 0 0 = (⟨1, 3, 5⟩, false) ∧ listE L5 0 = [1] := by
  refine ⟨?_, ?_, ?_, ?_, ?_, ?_, ?_, ?_⟩ <;> kernel_rfl
set_option maxRecDepth 100000 in
set_option maxHeartbeats 1000000 in
theorem live_any (w : World) : Calls Try.prog 10 #[] w fun e w' => e = .returned (.bool true) ∧ Keep none_ w w' := by
  obtain ⟨p1, p2, p3, p4, p5, p6, p7, p8⟩ := live_plain
  have H0 := Lib.hid (One.new w (Keep.refl none_ w))
  have HP1 := Lib.hid p1
  have HP2 := Lib.hid p2
  have HP3 := Lib.hid p3
  have HP4 := Lib.hid p4
  have HP5 := Lib.hid p5
  have HP6 := Lib.hid p6
  have HP7 := Lib.hid p7
  have HP8 := Lib.hid p8
  clear p1 p2 p3 p4 p5 p6 p7 p8
  go_enter Try.func10, Try.ntmps10
  go_wp2_with fail
  refine H0.out.mono ?_
  rintro e w1 ⟨T, rfl, h1⟩
  have h2 := h1.step (Q := fun e _ => e = .returned (.int .i64 (freshE St.init 0))) (fun F pb sb h hF => begin_any h 0)
  rw [HP1.out] at h2
  replace h2 := Lib.hid h2
  clear h1
  go_wp2_with fail
  refine h2.out.mono ?_
  rintro e w2 ⟨rfl, h3⟩
  have h4 := h3.step (S' := L2) (Q := fun e _ => e = .returned (.tuple #[.int .i64 (openE L1 0 o13).1, .int .i64 (openE L1 0 o13).2])) (fun F pb sb h hF => open_any h 0 o13)
  rw [HP2.out] at h4
  replace h4 := Lib.hid h4
  clear h3
  unfold opv o13 at h4
  go_wp2_with fail
  refine h4.out.mono ?_
  rintro e w3 ⟨rfl, h5⟩
  have h6 := h5.step (S' := L3) (Q := fun e _ => e = .returned (.tuple #[.int .i64 (dupE L2 0 0).1, .int .i64 (dupE L2 0 0).2])) (fun F pb sb h hF => dup_any h 0 0)
  rw [HP3.out] at h6
  replace h6 := Lib.hid h6
  clear h5
  go_wp2_with fail
  refine h6.out.mono ?_
  rintro e w4 ⟨rfl, h7⟩
  have h8 := h7.step (S' := L4) (Q := fun e _ => e = .returned (.int .i64 (atE L3 0 1))) (fun F pb sb h hF => by
    refine (move_any h 0 1 5).mono ?_
    rintro e w' ⟨rfl, hr, hk⟩
    exact ⟨rfl, ⟨pb, sb, hr.more fun _ hb => .inl hb⟩, hk⟩)
  rw [HP4.out] at h8
  replace h8 := Lib.hid h8
  clear h7
  go_wp2_with fail
  refine h8.out.mono ?_
  rintro e w5 ⟨rfl, h9⟩
  have h10 := h9.read (Q := fun e _ => e = .returned (.tuple #[opv (getE L4 0 0), .int .i64 (atE L4 0 0)])) (fun F pb sb h => get_any h 0 0)
  rw [HP5.out, HP6.out] at h10
  replace h10 := Lib.hid h10
  have H9 := Lib.hid h9
  clear h9
  unfold opv at h10
  go_wp2_with fail
  refine h10.out.mono ?_
  rintro e w6 ⟨rfl, hk6⟩
  have h11 := H9.out.keep0 hk6
  have hn := h11.enter ((Keep.refl _ w6).alloc (.cells (opc ⟨1, 3, 5⟩).toArray 30))
  have h12 := hn.step (S' := L5) (Q := fun e _ => e = .returned (.tuple #[opv (closeE L4 0 0).1, .bool (closeE L4 0 0).2, .int .i64 (atE L4 0 0)])) (fun F pb sb h hF => close_any h hF 0 0)
  rw [HP7.out, HP6.out] at h12
  replace h12 := Lib.hid h12
  have H11 := Lib.hid h11
  have HBX := Lib.hid (Blk.new w6 30 (opc ⟨1, 3, 5⟩))
  clear h11 hn hk6
  unfold opv at h12
  go_wp2_with fail
  refine h12.out.mono ?_
  rintro e w7 ⟨rfl, h13⟩
  have hbx := HBX.out.keep h13.keep (fun hm => by have := hm.2; omega)
  have b2 := hbx.cell_of (i := 2) rfl
  have h14 := h13.leave ((Keep.refl _ w6).alloc _) H11.out.keep
  have h15 := h14.keep0 ((Keep.refl _ w7).alloc (.cells (opc ⟨1, 3, 5⟩).toArray 30))
  have h16 := h15.read (Q := fun e w' => ∃ v, e = .returned v ∧ Ints w' v (listE L5 0)) (fun F pb sb h => by
    refine (list_any h 0).mono ?_
    rintro e w' ⟨⟨v, rfl, ho⟩, hb⟩
    exact ⟨⟨v, rfl, ownsRow_slc ho⟩, Keep.of_below hb⟩)
  rw [HP8.out] at h16
  replace h16 := Lib.hid h16
  have H15 := Lib.hid h15
  clear h13 h14 h15 hbx
  go_wp2_with fail
  refine h16.out.mono ?_
  rintro e w8 ⟨⟨v, rfl, A, cap, rfl, _⟩, hk8⟩
  have HF := Lib.hid (H15.out.keep0 hk8).keep
  go_wp2
  go_ret
  exact ⟨rfl, HF.out⟩
end Go.Proofs.Ytdiginkpclbmdaa
