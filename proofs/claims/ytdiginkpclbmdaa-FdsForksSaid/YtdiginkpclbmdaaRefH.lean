/- The walk of the document's Close. -/
import Derived.Test.YtdiginkpclbmdaaRefG
import Derived.Test.YtdiginkpclbmdaaImpH
namespace Go.Proofs.Ytdiginkpclbmdaa
open Go.RowKit
attribute [local go_sem] cell_alloc_some frozen_alloc_some
section
variable {w w' : World} {R : Nat} {S : St} {v : Value} {F : Nat → Prop}
set_option maxHeartbeats 1000000 in
theorem rclose_any (h : RepR w R S v F) (hFl : ∀ b, F b → b < w.heap.size) (p k : Int) :
    Calls Try.prog 45 #[.pointer (some ⟨R, 0, none⟩), .int .i64 p, .int .i64 k] w fun e w' => e = .returned (.tuple #[opv (closeE S p k).1, .bool (closeE S p k).2, .int .i64 (atE S p k)]) ∧ RepR w' R (closeS S p k) v F ∧ Keep (· = R) w w' := by
  have h1 := h.keep0 ((Keep.refl _ w).alloc (.cells #[.int .u8 0, .int .i64 0, .int .i64 0] 30))
  have H1 := rat_any h1 p k
  by_cases he : atE S p k = 0
  · obtain ⟨q, j, rfl, rfl, hq, hj, hh, hf⟩ := at_ok_cases S p k he
    have hE : closeE S q j = (S.what (S.fd q j), cnt (S.close q j).fd (S.fd q j) == 0) := by unfold closeE; rw [if_pos he]; rfl
    have hS : closeS S q j = S.close q j := by unfold closeS; rw [if_pos he]; rfl
    rw [hE, hS, he]
    rw [he] at H1
    replace H1 := Lib.hid H1
    obtain ⟨m, hm⟩ : ∃ m, S.fd q j = m + 1 := ⟨S.fd q j - 1, by omega⟩
    have hle := h.inv.le q j hq hj
    have hc := h1.cellF hq hj
    have hz := h1.tab.frozen (6 + q * 8 + j)
    have hst : RepR (((w.setCell ⟨R, 6 + q * 8 + j, none⟩ (.int .i64 0)).alloc (.cells #[.int .u8 0, .int .i64 0, .int .i64 0] 30)).drew) R (S.close q j) v F := ((h.turn (n := 0) hq hj (.inr rfl) (Nat.zero_le _)).keep0 ((Keep.refl _ _).alloc (.cells #[.int .u8 0, .int .i64 0, .int .i64 0] 30))).keep0 ((Keep.refl _ _).drew)
    have HHELD := rheld_any hst (S.fd q j)
    have hbb : (cnt (S.close q j).fd (S.fd q j) != 0) = !(cnt (S.close q j).fd (S.fd q j) == 0) := rfl
    simp only [hbb] at HHELD
    obtain ⟨g, cap, rfl, c0, c1, c2⟩ := h.cellO (m := m) (by omega)
    rw [hm] at hc HHELD ⊢
    replace HHELD := Lib.hid HHELD
    have hres : Blk (w.alloc (.cells #[.int .u8 0, .int .i64 0, .int .i64 0] 30)) w.heap.size 30 (opc zero3) := Blk.new w 30 (opc zero3)
    have hlt := h.tab.lt
    have hgl : g < w.heap.size := hFl g (h.footA g rfl)
    have hgR : R ≠ g := fun e => own_ne h.all h.tab (by decide) (by rw [e]; rfl)
    have h5 : (q : Int) < 6 := by omega
    have h6 : (j : Int) < 8 := by omega
    have h5' : (0 : Int) ≤ (q : Int) := by omega
    have h6' : (0 : Int) ≤ (j : Int) := by omega
    have h7 : (m : Int) < (S.all.length : Int) := by omega
    have h9 : (0 : Int) ≤ (m : Int) := by omega
    have h8 : S.all.length ≤ 9223372036854775807 := by
      rcases h.all.2 with ⟨hx, _⟩ | ⟨g, cap, cur, hv, _, _, h1, h2, _⟩
      · cases hx
      · unfold maxLen at h2; omega
    have hwr : IntKind.i64.wrap (m : Int) = m := by rw [IntKind.wrap_i64]; omega
    have HST := Lib.hid hst
    have HRES := Lib.hid hres
    have HFL := Lib.hid hFl
    have hlg : w.heap.size ≠ g := by omega
    have hlR : w.heap.size ≠ R := by omega
    clear h h1 hh hf he hE hS hm hle hst hres hFl hbb
    generalize S.what (m + 1) = ob at *
    generalize (cnt (S.close q j).fd (m + 1) == 0) = bb at *
    generalize S.all.length = len at *
    go_enter Try.func45, Try.ntmps45
    go_wp2_with fail
    refine H1.out.mono ?_
    rintro e w' ⟨rfl, rfl⟩
    go_wp2_with fail
    obtain ⟨W1, hW1⟩ : ∃ W1, W1 = (w.setCell ⟨R, 6 + q * 8 + j, none⟩ (.int .i64 0)).alloc (.cells #[.int .u8 0, .int .i64 0, .int .i64 0] 30) := ⟨_, rfl⟩
    have hkW : Keep (· = R) w W1 := by rw [hW1]; exact (Keep.setCell (S := (· = R)) (p := ⟨R, 6 + q * 8 + j, none⟩) (Keep.refl _ w) (.inl rfl) (.int .i64 0)).alloc _
    have hkR : Keep (· = R) w W1 := by rw [hW1]; exact (Keep.setCell (S := (· = R)) (p := ⟨R, 6 + q * 8 + j, none⟩) (Keep.refl _ w) (.inl rfl) (.int .i64 0)).alloc _
    have s0 := (hkR.drew.cell (p := ⟨g, m * 3, none⟩) hgl (Ne.symm hgR)).trans c0
    have s1 := (hkR.drew.cell (p := ⟨g, m * 3 + 1, none⟩) hgl (Ne.symm hgR)).trans c1
    have s2 := (hkR.drew.cell (p := ⟨g, m * 3 + 2, none⟩) hgl (Ne.symm hgR)).trans c2
    have hx : Blk W1 w.heap.size 30 (opc zero3) := by
      have := (Blk.new (w.setCell ⟨R, 6 + q * 8 + j, none⟩ (.int .i64 0)) 30 (opc zero3))
      rw [show (w.setCell ⟨R, 6 + q * 8 + j, none⟩ (.int .i64 0)).heap.size = w.heap.size by simp] at this; rw [hW1]; exact this
    have HST2 := HST.out
    have HHD := HHELD.out
    rw [← hW1] at HHD HST2 ⊢
    have sR := HST2.cellA
    have x0 := hx.drew.cell_of (i := 0) rfl
    have x1 := hx.drew.cell_of (i := 1) rfl
    have x2 := hx.drew.cell_of (i := 2) rfl
    have y0 := hx.drew.frozen 0
    have y1 := hx.drew.frozen 1
    have y2 := hx.drew.frozen 2
    have HX := Lib.hid hx
    have HKW := Lib.hid hkW
    have HH2 := Lib.hid HHD
    have HST3 := Lib.hid HST2
    clear hkW hkR hx HHD HST2 HHELD HST c0 c1 c2 hc hz hW1
    go_region_held3 (fun W => W.cell? ⟨R, 54, none⟩ = some (.slice (some ⟨g, 0, none⟩) len cap) ∧ W.cell? ⟨g, m * 3, none⟩ = some (.int .u8 ob.kind) ∧ W.cell? ⟨g, m * 3 + 1, none⟩ = some (.int .i64 ob.ref) ∧ W.cell? ⟨g, m * 3 + 2, none⟩ = some (.int .i64 ob.pos))
          (first | exact ⟨sR, s0, s1, s2⟩ | exact ⟨far3 hlR sR, far3 hlg s0, far3 hlg s1, far3 hlg s2⟩ | go_keep)
          (first | (go_at_call 52; refine Calls.mono (by exact HH2.out) ?_; rintro e w' ⟨rfl, hww⟩; rw [hww] at sR s0 s1 s2 x0 x1 x2 y0 y1 y2; have HWW := Lib.hid hww; clear hww))
    have hxw := HX.out.drew
    have hst := HST3.out
    rw [HWW.out] at hxw hst
    have hz := (((hxw.set_ 0 (.int .u8 ob.kind)).set_ 1 (.int .i64 ob.ref)).set_ 2 (.int .i64 ob.pos))
    have z0 := hz.cell_of (i := 0) rfl
    have z1 := hz.cell_of (i := 1) rfl
    have z2 := hz.cell_of (i := 2) rfl
    have hk1 : Keep (· = w.heap.size) w' (((w'.setCell ⟨w.heap.size, 0, none⟩ (.int .u8 ob.kind)).setCell ⟨w.heap.size, 1, none⟩ (.int .i64 ob.ref)).setCell ⟨w.heap.size, 2, none⟩ (.int .i64 ob.pos)) :=
      ((Keep.setCell (S := (· = w.heap.size)) (p := ⟨w.heap.size, 0, none⟩) (Keep.refl _ w') (.inl rfl) _).setCell (p := ⟨w.heap.size, 1, none⟩) (.inl rfl) _).setCell (p := ⟨w.heap.size, 2, none⟩) (.inl rfl) _
    have hrr := hst.keep hk1 (fun b hb e => by have := HFL.out b hb; omega)
    have hk2 : Keep (· = R) w (((w'.setCell ⟨w.heap.size, 0, none⟩ (.int .u8 ob.kind)).setCell ⟨w.heap.size, 1, none⟩ (.int .i64 ob.ref)).setCell ⟨w.heap.size, 2, none⟩ (.int .i64 ob.pos)) := by
      have h0 := HKW.out.drew
      rw [HWW.out] at h0
      exact h0.thenF hk1 fun x hx => .inr (by omega)
    have HRF := Lib.hid hrr; have HKF := Lib.hid hk2; clear hz hk1 hrr hk2 hxw hst
    generalize (((w'.setCell ⟨w.heap.size, 0, none⟩ (.int .u8 ob.kind)).setCell ⟨w.heap.size, 1, none⟩ (.int .i64 ob.ref)).setCell ⟨w.heap.size, 2, none⟩ (.int .i64 ob.pos)) = w2 at *
    go_wp2
    exact bodyPost_ret (v := .tuple #[opv ob, .bool bb, .int .i64 0]) (by simp [results, Try.results45, go_sem, opv, z0, z1, z2]) rfl ⟨rfl, HRF.out, HKF.out⟩
  · have hE : closeE S p k = (zero3, false) := by unfold closeE; rw [if_neg he]
    have hS : closeS S p k = S := by unfold closeS; rw [if_neg he]
    rw [hE, hS]
    replace H1 := Lib.hid H1
    have hne : (atE S p k == 0) = false := by simpa using he
    have HH := Lib.hid h1
    clear h h1 hE hS
    generalize atE S p k = er at *
    go_enter Try.func45, Try.ntmps45
    go_wp2_with fail
    refine H1.out.mono ?_
    rintro e w' ⟨rfl, rfl⟩
    go_wp2
    exact bodyPost_ret (v := .tuple #[opv zero3, .bool false, .int .i64 er]) (by simp [results, Try.results45, go_sem, opv, zero3]) rfl ⟨rfl, HH.out, by repeat (first | exact Keep.refl _ _ | apply Keep.alloc | apply Keep.drewN | apply Keep.drew | (refine Keep.setCell ?_ (.inr (by simp)) _))⟩
end
end Go.Proofs.Ytdiginkpclbmdaa
