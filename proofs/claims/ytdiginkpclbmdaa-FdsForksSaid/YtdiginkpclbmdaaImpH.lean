/- The walk of Close. -/
import Derived.Test.YtdiginkpclbmdaaImpG
namespace Go.Proofs.Ytdiginkpclbmdaa
open Go.RowKit
attribute [local go_sem] cell_alloc_some frozen_alloc_some
section
variable {w w' : World} {T : Nat} {S : St} {pb sb : Nat → Nat} {F : Nat → Prop}
theorem far3 {w : World} {b g i : Nat} {x0 x1 x2 v : Value} (hne : b ≠ g) (h : w.cell? ⟨g, i, none⟩ = some v) :
    (((w.setCell ⟨b, 0, none⟩ x0).setCell ⟨b, 1, none⟩ x1).setCell ⟨b, 2, none⟩ x2).cell? ⟨g, i, none⟩ = some v := by
  rw [World.cell?_setCell_far _ _ _ _ hne, World.cell?_setCell_far _ _ _ _ hne, World.cell?_setCell_far _ _ _ _ hne]; exact h
set_option maxHeartbeats 1000000 in
theorem close_any (h : RepT w T S pb sb F) (hFl : ∀ b, F b → b < w.heap.size) (p k : Int) :
    Calls Try.prog 16 #[.pointer (some ⟨T, 0, none⟩), .int .i64 p, .int .i64 k] w fun e w' => e = .returned (.tuple #[opv (closeE S p k).1, .bool (closeE S p k).2, .int .i64 (atE S p k)]) ∧ RT w' T (closeS S p k) (ext F w w') ∧ Keep F w w' := by
  have h1 := h.keep0 ((Keep.refl _ w).alloc (.cells #[.int .u8 0, .int .i64 0, .int .i64 0] 30))
  by_cases he : atE S p k = 0
  · obtain ⟨q, j, rfl, rfl, hq, hj, hh, hf⟩ := at_ok_cases S p k he
    have hl := live_of hq hj hf
    have hs := h1.shr _ hl
    have hE : closeE S q j = (S.what (S.fd q j), cnt (S.close q j).fd (S.fd q j) == 0) := by unfold closeE; rw [if_pos he]; rfl
    have hS : closeS S q j = S.close q j := by unfold closeS; rw [if_pos he]; rfl
    rw [hE, hS, he]
    have H1 := Lib.hid (at_ok h1 q j hq hj hh hf)
    have HR := Lib.hid (fun n => release_any (h1.keep0 (Keep.ofDrew n _)) q j hq hj hh hf)
    have hres : Blk (w.alloc (.cells #[.int .u8 0, .int .i64 0, .int .i64 0] 30)) w.heap.size 30 (opc zero3) := Blk.new w 30 (opc zero3)
    have HRES := Lib.hid hres
    have HSH := Lib.hid hs
    have hlt := h.tab.lt
    have hne : w.heap.size ≠ sb (S.fd q j) := by have := (h.shr _ hl).lt; omega
    have hFlt : Hid (F (pb q) ∧ F (sb (S.fd q j))) := ⟨h.footP q hq hh, h.footS _ hl⟩
    clear h h1 hs hl hh hf he hE hS hres
    generalize S.what (S.fd q j) = ob at *
    generalize (cnt (S.close q j).fd (S.fd q j) == 0) = bb at *
    go_enter Try.func16, Try.ntmps16
    go_wp2_with fail
    refine H1.out.mono ?_
    rintro e w' ⟨rfl, n, rfl⟩
    have HR1 := Lib.hid (HR.out (n + 1)); clear HR
    have s0 := (HSH.out.drewN (n + 1)).cell_of (i := 0) rfl
    have s1 := (HSH.out.drewN (n + 1)).cell_of (i := 1) rfl
    have s2 := (HSH.out.drewN (n + 1)).cell_of (i := 2) rfl
    have HFL := Lib.hid hFl; clear hFl
    go_wp2_with fail
    go_region_held3 (fun W => W.cell? ⟨sb (S.fd q j), 0, none⟩ = some (.int .u8 ob.kind) ∧ W.cell? ⟨sb (S.fd q j), 1, none⟩ = some (.int .i64 ob.ref) ∧ W.cell? ⟨sb (S.fd q j), 2, none⟩ = some (.int .i64 ob.pos))
          (first | exact ⟨s0, s1, s2⟩ | exact ⟨t0, t1, t2⟩ | exact ⟨far3 hne t0, far3 hne t1, far3 hne t2⟩ | go_keep)
          (first | (go_at_call 29; refine Calls.mono (by exact HR1.out) ?_; rintro e w' ⟨rfl, hr, hk, hb⟩; have t0 := hb.cell_of (i := 0) rfl; have t1 := hb.cell_of (i := 1) rfl; have t2 := hb.cell_of (i := 2) rfl; have hx := (HRES.out.drewN (n + 1)).keep hk (fun h => by have := HFL.out _ h; omega); have x0 := hx.cell_of (i := 0) rfl; have x1 := hx.cell_of (i := 1) rfl; have x2 := hx.cell_of (i := 2) rfl; have y0 := hx.frozen 0; have y1 := hx.frozen 1; have y2 := hx.frozen 2; have HX := Lib.hid hx; have HRR := Lib.hid hr; have HKK := Lib.hid hk; clear hx hr hk hb))
    have hz := (((HX.out.set_ 0 (.int .u8 ob.kind)).set_ 1 (.int .i64 ob.ref)).set_ 2 (.int .i64 ob.pos))
    have z0 := hz.cell_of (i := 0) rfl
    have z1 := hz.cell_of (i := 1) rfl
    have z2 := hz.cell_of (i := 2) rfl
    have hk1 : Keep (· = w.heap.size) w' (((w'.setCell ⟨w.heap.size, 0, none⟩ (.int .u8 ob.kind)).setCell ⟨w.heap.size, 1, none⟩ (.int .i64 ob.ref)).setCell ⟨w.heap.size, 2, none⟩ (.int .i64 ob.pos)) :=
      ((Keep.setCell (S := (· = w.heap.size)) (p := ⟨w.heap.size, 0, none⟩) (Keep.refl _ w') (.inl rfl) _).setCell (p := ⟨w.heap.size, 1, none⟩) (.inl rfl) _).setCell (p := ⟨w.heap.size, 2, none⟩) (.inl rfl) _
    have hrr := HRR.out.keep hk1 (fun b hb e => by have := HFL.out b hb; omega)
    have hk2 : Keep F w (((w'.setCell ⟨w.heap.size, 0, none⟩ (.int .u8 ob.kind)).setCell ⟨w.heap.size, 1, none⟩ (.int .i64 ob.ref)).setCell ⟨w.heap.size, 2, none⟩ (.int .i64 ob.pos)) := by
      have h0 := (((Keep.refl F w).alloc (.cells #[.int .u8 0, .int .i64 0, .int .i64 0] 30)).drewN (n + 1)).trans HKK.out
      exact ⟨hk1.os.trans h0.os, hk1.tape.trans h0.tape, hk1.output.trans h0.output, Nat.le_trans h0.size hk1.size, fun k hk hs => (hk1.block k (Nat.lt_of_lt_of_le hk h0.size) (by omega)).trans (h0.block k hk hs)⟩
    have HRF := Lib.hid hrr; have HKF := Lib.hid hk2; clear hz hk1 hrr hk2
    generalize (((w'.setCell ⟨w.heap.size, 0, none⟩ (.int .u8 ob.kind)).setCell ⟨w.heap.size, 1, none⟩ (.int .i64 ob.ref)).setCell ⟨w.heap.size, 2, none⟩ (.int .i64 ob.pos)) = w2 at *
    go_wp2
    exact bodyPost_ret (v := .tuple #[opv ob, .bool bb, .int .i64 0]) (by simp [results, Try.results16, go_sem, opv, z0, z1, z2]) rfl ⟨rfl, ⟨_, _, HRF.out.more fun _ hb => .inl hb⟩, HKF.out⟩
  · have hE : closeE S p k = (zero3, false) := by unfold closeE; rw [if_neg he]
    have hS : closeS S p k = S := by unfold closeS; rw [if_neg he]
    rw [hE, hS]
    have H1 := Lib.hid (at_err h1 p k he)
    have hne : (atE S p k == 0) = false := by simpa using he
    have HH := Lib.hid h1
    clear h h1 hE hS
    generalize atE S p k = er at *
    go_enter Try.func16, Try.ntmps16
    go_wp2_with fail
    refine H1.out.mono ?_
    rintro e w' ⟨rfl, rfl⟩
    go_wp2
    exact bodyPost_ret (v := .tuple #[opv zero3, .bool false, .int .i64 er]) (by simp [results, Try.results16, go_sem, opv, zero3]) rfl ⟨rfl, ⟨_, _, HH.out.more fun _ hb => .inl hb⟩, (Keep.refl _ w).alloc _⟩
end
end Go.Proofs.Ytdiginkpclbmdaa
