/- The walk of the document's Open. -/
import Derived.Test.YtdiginkpclbmdaaTools
namespace Go.Proofs.Ytdiginkpclbmdaa
open Go.RowKit
attribute [local go_sem] cell_alloc_some frozen_alloc_some
theorem Holds.below {w w' : World} {A : Option Addr} {m size : Nat} {news : List Value} (h : Holds w A m size news) (hb : Below w.heap.size w w') : Holds w' A m size news := by
  rcases h with h | ⟨ad, rfl, hl, hc⟩
  · exact .inl h
  · exact .inr ⟨ad, rfl, hl, fun j u hu => by
      have h1 := hc j u hu
      have hlt := World.block_lt_of_cell? w _ h1
      exact (hb.cell hlt).trans h1⟩
section
variable {w w' : World} {R : Nat} {S : St} {v : Value} {F : Nat → Prop}
theorem RepR.holds (h : RepR w R S v F) : ∃ A cap, v = .slice A S.all.length cap ∧ Holds w A S.all.length 3 (flat S.all) := by
  rcases h.all.2 with ⟨rfl, h0⟩ | ⟨g, cap, cur, rfl, _⟩
  · have : S.all = [] := List.eq_nil_of_length_eq_zero h0
    exact ⟨none, 0, by rw [this]; rfl, .inl ⟨rfl, h0, by rw [this]; rfl⟩⟩
  · exact ⟨_, cap, rfl, .inr ⟨_, rfl, flat_len _, h.all.cells (g := g) rfl⟩⟩
theorem Keep.thenF {F G : Nat → Prop} {a b c : World} (h : Keep F a b) (k : Keep G b c) (hG : ∀ x, G x → F x ∨ a.heap.size ≤ x) : Keep F a c :=
  ⟨k.os.trans h.os, k.tape.trans h.tape, k.output.trans h.output, Nat.le_trans h.size k.size, fun x hx hF =>
    (k.block x (Nat.lt_of_lt_of_le hx h.size) (fun hg => (hG x hg).elim hF (fun hle => absurd hx (Nat.not_lt.2 hle)))).trans (h.block x hx hF)⟩
theorem opc_one (o : Op3) : ∀ u ∈ opc o, u.oneCell' = true := by simp [opc, Value.oneCell']
theorem Blk.news {w : World} {g t : Nat} {cs : List Value} (h : Blk w g t cs) : ∀ j u, cs[j]? = some u → w.cell? ((⟨g, 0, none⟩ : Addr).add j) = some u := fun j u hu => by
  have h1 := h.cell_of hu
  unfold Addr.add
  split
  · rename_i e; subst e; exact h1
  · simpa using h1
theorem flat_push (l : List Op3) (o : Op3) : flat (l ++ [o]) = flat l ++ opc o := by simp [flat]
theorem free_fd (S S' : St) (p : Nat) (h : S'.fd = S.fd) : ∀ d k, Ytdiginkpclbmdaa.free S' p d k = Ytdiginkpclbmdaa.free S p d k
  | 0, _ => rfl
  | d + 1, k => by unfold Ytdiginkpclbmdaa.free; rw [h, free_fd S S' p h d (k + 1)]
theorem ropen_tail {w0 W9 : World} {v9 : Value} {len : Nat} (hr : RepR w0 R S v F) (hlen : S.all.length = len) (hb : Below w.heap.size w w0) (p : Nat) (o : Op3) (hp : p < 6) (hh : S.has p = true) (hf : S.free p < 8)
    (hown : W9.ownsRow w0.heap.size 30 3 v9 (0 + len + 1) ([] ++ flat S.all ++ opc o)) (hb9 : Below w0.heap.size w0 W9) :
    Calls Try.prog 51 #[.pointer (some ⟨R, 0, none⟩), .int .i64 p, .int .i64 (len + 1 : Nat)] (W9.setCell ⟨R, 54, none⟩ v9) fun e w' =>
      e = .returned (.tuple #[.int .i64 (S.free p), .int .i64 0]) ∧ RR w' R ((S.push o).give p (len + 1)) (ext F w w') ∧ Keep (· = R) w w' := by
  have hl : (S.push o).all.length = len + 1 := by simp [St.push, hlen]
  have hr9 := hr.keep0 (Keep.of_below hb9)
  have ho : W9.ownsRow 0 30 3 v9 (S.push o).all.length (flat (S.push o).all) := by
    have := ownsRow_zero hown
    rw [hl, show flat (S.push o).all = flat S.all ++ opc o from flat_push _ _]
    simpa using this
  have hs := hr9.swap (S' := S.push o) (hr9.inv.push o) rfl rfl ho
  have hfr : (S.push o).free p = S.free p := free_fd _ _ p rfl 8 0
  have hsz : W9.heap.size = (W9.setCell ⟨R, 54, none⟩ v9).heap.size := by simp
  have hob : ∀ b, v9.ownBlock = some b → w0.heap.size ≤ b ∧ b < W9.heap.size := fun b hb => hown.lt b hb
  have hk0 : Keep (· = R) w (W9.setCell ⟨R, 54, none⟩ v9) := ((Keep.of_below (S := (· = R)) hb).trans ((Keep.of_below hb9))).setCell (p := ⟨R, 54, none⟩) (.inl rfl) _
  have hw := hb.size
  refine (rgive_ok hs p (len + 1) hp hh (by rw [hfr]; exact hf) (by rw [hl]; exact Nat.le_refl _)).mono ?_
  rintro e w' ⟨rfl, h1, h2⟩
  refine ⟨by rw [hfr], ⟨_, h1.more fun b hb => ?_⟩, hk0.trans h2⟩
  rcases hb with hb | hb
  · exact .inl hb
  · exact .inr ⟨by have := (hob b hb).1; omega, by have := (hob b hb).2; have := h2.size; omega⟩
set_option maxRecDepth 100000 in
set_option maxHeartbeats 4000000 in
theorem ropen_ok (h : RepR w R S v F) (hb : S.all.length ≤ 1000) (p : Nat) (o : Op3) (hp : p < 6) (hh : S.has p = true) (hk : badKind o = false) (hf : S.free p < 8) :
    Calls Try.prog 43 #[.pointer (some ⟨R, 0, none⟩), .int .i64 p, opv o] w fun e w' => e = .returned (.tuple #[.int .i64 (S.free p), .int .i64 0]) ∧ RR w' R ((S.push o).give p (S.all.length + 1)) (ext F w w') ∧ Keep (· = R) w w' := by
  obtain ⟨i0, hi, hz0, hz1, hz2⟩ := info_parts info30
  unfold opv
  have h1 := h.keep0 ((Keep.refl _ w).alloc (.cells #[.int .u8 o.kind, .int .i64 o.ref, .int .i64 o.pos] 30))
  have hm : mayE S p = 0 := by unfold mayE; rw [if_neg (by rintro (h | h | h); omega; omega; simp [hh] at h)]
  have H1 := rmay_any h1 p
  rw [hm] at H1
  replace H1 := Lib.hid H1
  have hroom : roomE S p = 8 - (listN S p 8).length := by unfold roomE; rw [if_neg (by rw [hm]; decide)]; rfl
  have hne : (roomE S p == 0) = false := by
    have hlt : (listN S p 8).length < 8 := by
      have hz := S.free_zero p hf
      unfold listN
      have hp1 : ((List.range 8).filter (fun j => S.fd p j != 0)).length < (List.range 8).length :=
        List.length_filter_lt_length_iff_exists.2 ⟨S.free p, by simpa using hf, by simp [hz]⟩
      simpa using hp1
    rw [hroom]; simp; omega
  have H2 := Lib.hid (rroom_any h1 p)
  have hbx : Blk (w.alloc (.cells #[.int .u8 o.kind, .int .i64 o.ref, .int .i64 o.pos] 30)) w.heap.size 30 (opc o) := Blk.new w 30 (opc o)
  have c0 := hbx.cell_of (i := 0) rfl
  have hz1' : (o.kind == 0) = false := by simp [badKind] at hk; simp; omega
  have hz2' : ¬ o.kind > 3 := by simp [badKind] at hk; omega
  have HBX := Lib.hid hbx
  have HH1 := Lib.hid h1
  have HB0 : Hid (Below w.heap.size w (w.alloc (.cells #[.int .u8 o.kind, .int .i64 o.ref, .int .i64 o.pos] 30))) := (Below.refl _ _).alloc (Nat.le_refl _) _
  have HH := Lib.hid h
  have HHP := Lib.hid hh
  clear h h1 hm hroom hbx hk hh
  generalize roomE S p = rm at *
  go_enter Try.func43, Try.ntmps43
  go_wp2_with fail
  refine H1.out.mono ?_
  rintro e w' ⟨rfl, rfl⟩
  go_wp2_with fail
  refine H2.out.mono ?_
  rintro e w0 ⟨rfl, hb0⟩
  have hr0 := HH1.out.keep0 (Keep.of_below hb0)
  have hx0 := HBX.out.below hb0 HBX.out.lt
  have HW0 := Lib.hid (HB0.out.trans (hb0.mono (by simp)))
  have HR0 := Lib.hid hr0; have HX0 := Lib.hid hx0; clear hr0 hx0 hb0 c0
  go_wp2_with fail
  obtain ⟨A, cap, rfl, hho⟩ := HR0.out.holds
  have ha0 := HR0.out.cellA
  have x0 := HX0.out.cell_of (i := 0) rfl
  have x1 := HX0.out.cell_of (i := 1) rfl
  have x2 := HX0.out.cell_of (i := 2) rfl
  have hlR := HR0.out.tab.lt
  have hlX := HX0.out.lt
  have HHO := Lib.hid hho
  have HFLO := Lib.hid (flat_one S.all)
  clear hho
  generalize hlen : S.all.length = len at *
  have HLEN := Lib.hid hlen; clear hlen
  have sOf : Hid (∀ W, Below w0.heap.size w0 W → W.cell? ⟨R, 54, none⟩ = some (.slice A len cap) ∧ W.cell? ⟨w.heap.size, 0, none⟩ = some (.int .u8 o.kind) ∧ W.cell? ⟨w.heap.size, 1, none⟩ = some (.int .i64 o.ref) ∧ W.cell? ⟨w.heap.size, 2, none⟩ = some (.int .i64 o.pos) ∧ Below w0.heap.size w0 W) := fun W hW =>
    ⟨(hW.cell (p := ⟨R, 54, none⟩) hlR).trans ha0, (hW.cell (p := ⟨w.heap.size, 0, none⟩) hlX).trans x0, (hW.cell (p := ⟨w.heap.size, 1, none⟩) hlX).trans x1, (hW.cell (p := ⟨w.heap.size, 2, none⟩) hlX).trans x2, hW⟩
  have HTAIL : Hid (∀ {W9 : World} {v9 : Value}, W9.ownsRow w0.heap.size 30 3 v9 (0 + len + 1) ([] ++ flat S.all ++ opc o) → Below w0.heap.size w0 W9 → _) := fun h1 h2 => ropen_tail HR0.out HLEN.out HW0.out p o hp HHP.out hf h1 h2
  refine wp_region_X (S := fun W => W.cell? ⟨R, 54, none⟩ = some (.slice A len cap) ∧ W.cell? ⟨w.heap.size, 0, none⟩ = some (.int .u8 o.kind) ∧ W.cell? ⟨w.heap.size, 1, none⟩ = some (.int .i64 o.ref) ∧ W.cell? ⟨w.heap.size, 2, none⟩ = some (.int .i64 o.pos) ∧ Below w0.heap.size w0 W) (last := 12) (by kernel_rfl) ?_
  have hW0 : Below w0.heap.size w0 w0.drew := (Below.refl _ _).drew
  have hS := sOf.out _ hW0
  refine wpAnyX_take (i := 0) (v := ?_) rfl (by kernel_rfl) (by kernel_rfl) (by kernel_rfl) (by kernel_rfl) (by decide) (fun _ _ _ h => h) hS (Or.inl ⟨by rfl, fun W hSW => ?_⟩) ?_
  rotate_left
  { obtain ⟨e0, e1, e2, e3, _⟩ := hSW
    go_simp
    with_reducible rfl }
  refine wpAnyX_take (i := 2) (v := ?_) rfl (by kernel_rfl) (by kernel_rfl) (by kernel_rfl) (by kernel_rfl) (by decide) (fun _ _ _ h => h) hS (Or.inl ⟨by rfl, fun W hSW => ?_⟩) ?_
  rotate_left
  { obtain ⟨e0, e1, e2, e3, _⟩ := hSW
    go_simp
    with_reducible rfl }
  refine wpAnyX_take (i := 3) (v := ?_) rfl (by kernel_rfl) (by kernel_rfl) (by kernel_rfl) (by kernel_rfl) (by decide) (fun _ _ _ h => h) hS (Or.inl ⟨by rfl, fun W hSW => ?_⟩) ?_
  rotate_left
  { obtain ⟨e0, e1, e2, e3, _⟩ := hSW
    go_simp
    with_reducible rfl }
  refine wpAnyX_take (i := 4) (v := ?_) rfl (by kernel_rfl) (by kernel_rfl) (by kernel_rfl) (by kernel_rfl) (by decide) (fun _ _ _ h => h) hS (Or.inl ⟨by rfl, fun W hSW => ?_⟩) ?_
  rotate_left
  { obtain ⟨e0, e1, e2, e3, _⟩ := hSW
    go_simp
    with_reducible rfl }
  refine wpAnyX_take (i := 5) (v := ?_) rfl (by kernel_rfl) (by kernel_rfl) (by kernel_rfl) (by kernel_rfl) (by decide) (fun _ _ _ h => h) hS (Or.inl ⟨by rfl, fun W hSW => ?_⟩) ?_
  rotate_left
  { obtain ⟨e0, e1, e2, e3, _⟩ := hSW
    go_simp
    with_reducible rfl }
  refine wpAnyX_take (i := 7) (v := ?_) rfl (by kernel_rfl) (by kernel_rfl) (by kernel_rfl) (by kernel_rfl) (by decide) (fun _ _ _ h => h) hS (Or.inl ⟨by rfl, fun W hSW => ?_⟩) ?_
  rotate_left
  { obtain ⟨e0, e1, e2, e3, _⟩ := hSW
    go_simp
    with_reducible rfl }
  obtain ⟨W0, hW0e⟩ : ∃ W0, W0 = w0.drew := ⟨_, rfl⟩
  rw [← hW0e] at hW0 hS ⊢
  clear hW0e
  refine wpAnyX_ready (rs := [1, 8]) (by kernel_rfl) (by simp) ?_
  refine AllX.cons rfl (fun K hK => ?_) ?_
  · go_simp
    refine hK.out _ _ (.inr (sOf.out _ (hW0.alloc hW0.size _))) ?_
    clear hK K
    obtain ⟨W1, e1⟩ : ∃ W, W = W0.alloc (.cells #[] 30) := ⟨_, rfl⟩
    have hb1 : Below w0.heap.size w0 W1 := by rw [e1]; exact hW0.alloc hW0.size _
    have own1 : W1.ownsRow w0.heap.size 30 3 (.slice (some ⟨W0.heap.size, 0, none⟩) 0 0) 0 [] := by rw [e1]; exact World.ownsRow_made (e := 30) (size := 3) (base := w0.heap.size) W0 #[] 0 hW0.size (by decide) rfl
    have sz1 : Hid (W1.heap.size = W0.heap.size + 1) := by unfold Hid; rw [e1]; simp
    rw [← e1]
    clear e1
    refine wpAnyX_ready (rs := [6, 8]) (by kernel_rfl) (by simp) ?_
    refine AllX.cons rfl (fun K hK => ?_) ?_
    · refine step_append_gen rfl _ _ 33 rfl w0.heap.size 30 i0 (.agg #[.int .u8 0, .int .i64 0, .int .i64 0]) 3 24 Try.underlying33 hi hz0 hz1 hz2 rfl (by decide) (.slice (some ⟨W0.heap.size, 0, none⟩) 0 0) (0) ([]) rfl (own1) (A) (len) (cap) (flat S.all) rfl (HHO.out.below hb1) (HFLO.out) (by unfold maxLen; omega) (by omega) hb1.size ?_
      intro v_W6 W6 own6 hg6 hob6
      have hb6 : Below w0.heap.size w0 W6 := hb1.grown hg6 hb1.size (fun j e => ((own1).lt j e).1)
      refine hK.out _ _ (.inr (sOf.out _ hb6)) ?_
      clear hK K
      refine wpAnyX_ready (rs := [8]) (by kernel_rfl) (by simp) ?_
      refine AllX.cons rfl (fun K hK => ?_) AllX.nil
      go_simp
      refine hK.out _ _ (.inr (sOf.out _ (hb6.alloc hb6.size _))) ?_
      clear hK K
      obtain ⟨W8, e8⟩ : ∃ W, W = W6.alloc (.cells #[.int .u8 o.kind, .int .i64 o.ref, .int .i64 o.pos] 30) := ⟨_, rfl⟩
      have hb8 : Below w0.heap.size w0 W8 := by rw [e8]; exact hb6.alloc hb6.size _
      have blk8 : Blk W8 W6.heap.size 30 (opc o) := by rw [e8]; exact Blk.new W6 30 (opc o)
      have sz8 : Hid (W8.heap.size = W6.heap.size + 1) := by unfold Hid; rw [e8]; simp
      rw [← e8]
      have own8 : W8.ownsRow w0.heap.size 30 3 v_W6 (0 + len) ([] ++ flat S.all) := by rw [e8]; exact own6.alloc _
      clear e8
      refine wpAnyX_ready (rs := [9]) (by kernel_rfl) (by simp) ?_
      refine AllX.cons rfl (fun K hK => ?_) AllX.nil
      refine step_append_gen rfl _ _ 33 rfl w0.heap.size 30 i0 (.agg #[.int .u8 0, .int .i64 0, .int .i64 0]) 3 24 Try.underlying33 hi hz0 hz1 hz2 rfl (by decide) (v_W6) (0 + len) ([] ++ flat S.all) rfl (own8) (some ⟨W6.heap.size, 0, none⟩) (1) (1) (opc o) rfl (.inr ⟨_, rfl, rfl, blk8.news⟩) (opc_one o) (by unfold maxLen; omega) (by omega) hb8.size ?_
      intro v_W9 W9 own9 hg9 hob9
      have hb9 : Below w0.heap.size w0 W9 := hb8.grown hg9 hb8.size (fun j e => ((own8).lt j e).1)
      refine hK.out _ _ (.inr (sOf.out _ hb9)) ?_
      clear hK K
      obtain ⟨g9, cap9, rfl, _, _⟩ := own9.form (by omega)
      refine wpAnyX_ready (rs := [10]) (by kernel_rfl) (by simp) ?_
      refine AllX.cons rfl (fun K hK => ?_) AllX.nil
      go_simp
      refine hK.out _ _ (.inr (sOf.out _ hb9)) ?_
      clear hK K
      refine wpAnyX_ready (rs := [11]) (by kernel_rfl) (by simp) ?_
      refine AllX.cons rfl (fun K hK => ?_) AllX.nil
      go_simp
      refine hK.out _ _ (.inr (sOf.out _ hb9)) ?_
      clear hK K
      have hs9 := (sOf.out _ hb9).1
      have hf9 := ((HR0.out.keep0 (Keep.of_below hb9)).tab).frozen 54
      refine wpAnyX_ready (rs := [12]) (by kernel_rfl) (by simp) ?_
      refine AllX.cons rfl (fun K hK => ?_) AllX.nil
      go_simp
      refine hK.out _ _ (.inl rfl) ?_
      clear hK K
      refine wpAnyX_done (by kernel_rfl) ?_ _
      have hTL := HTAIL.out own9 hb9
      rw [Nat.zero_add, show ((len + 1 : Nat) : Int) = (len : Int) + 1 from by omega] at hTL
      have HTL := Lib.hid hTL
      clear hTL hf9 own9 hb9
      go_wp2_with fail
      refine HTL.out.mono ?_
      rintro e w' ⟨rfl, hr, hk⟩
      have HR := Lib.hid hr
      have HK := Lib.hid hk
      clear hr hk
      go_wp2
      go_ret2
      exact ⟨rfl, by rw [HLEN.out]; exact HR.out, HK.out⟩
    refine AllX.cons rfl (fun K hK => ?_) AllX.nil
    go_simp
    refine hK.out _ _ (.inr (sOf.out _ (hb1.alloc hb1.size _))) ?_
    clear hK K
    obtain ⟨W8, e8⟩ : ∃ W, W = W1.alloc (.cells #[.int .u8 o.kind, .int .i64 o.ref, .int .i64 o.pos] 30) := ⟨_, rfl⟩
    have hb8 : Below w0.heap.size w0 W8 := by rw [e8]; exact hb1.alloc hb1.size _
    have blk8 : Blk W8 W1.heap.size 30 (opc o) := by rw [e8]; exact Blk.new W1 30 (opc o)
    have sz8 : Hid (W8.heap.size = W1.heap.size + 1) := by unfold Hid; rw [e8]; simp
    rw [← e8]
    have own8 : W8.ownsRow w0.heap.size 30 3 (.slice (some ⟨W0.heap.size, 0, none⟩) 0 0) 0 [] := by rw [e8]; exact own1.alloc _
    clear e8
    refine wpAnyX_ready (rs := [6]) (by kernel_rfl) (by simp) ?_
    refine AllX.cons rfl (fun K hK => ?_) AllX.nil
    refine step_append_gen rfl _ _ 33 rfl w0.heap.size 30 i0 (.agg #[.int .u8 0, .int .i64 0, .int .i64 0]) 3 24 Try.underlying33 hi hz0 hz1 hz2 rfl (by decide) (.slice (some ⟨W0.heap.size, 0, none⟩) 0 0) (0) ([]) rfl (own8) (A) (len) (cap) (flat S.all) rfl (HHO.out.below hb8) (HFLO.out) (by unfold maxLen; omega) (by omega) hb8.size ?_
    intro v_W6 W6 own6 hg6 hob6
    have hb6 : Below w0.heap.size w0 W6 := hb8.grown hg6 hb8.size (fun j e => ((own8).lt j e).1)
    refine hK.out _ _ (.inr (sOf.out _ hb6)) ?_
    clear hK K
    have blk6 : Blk W6 W1.heap.size 30 (opc o) := (hg6.block _ blk8.lt (by have := sz1.out; have := sz8.out; simp [Value.ownBlock]; omega)).trans blk8
    refine wpAnyX_ready (rs := [9]) (by kernel_rfl) (by simp) ?_
    refine AllX.cons rfl (fun K hK => ?_) AllX.nil
    refine step_append_gen rfl _ _ 33 rfl w0.heap.size 30 i0 (.agg #[.int .u8 0, .int .i64 0, .int .i64 0]) 3 24 Try.underlying33 hi hz0 hz1 hz2 rfl (by decide) (v_W6) (0 + len) ([] ++ flat S.all) rfl (own6) (some ⟨W1.heap.size, 0, none⟩) (1) (1) (opc o) rfl (.inr ⟨_, rfl, rfl, blk6.news⟩) (opc_one o) (by unfold maxLen; omega) (by omega) hb6.size ?_
    intro v_W9 W9 own9 hg9 hob9
    have hb9 : Below w0.heap.size w0 W9 := hb6.grown hg9 hb6.size (fun j e => ((own6).lt j e).1)
    refine hK.out _ _ (.inr (sOf.out _ hb9)) ?_
    clear hK K
    obtain ⟨g9, cap9, rfl, _, _⟩ := own9.form (by omega)
    refine wpAnyX_ready (rs := [10]) (by kernel_rfl) (by simp) ?_
    refine AllX.cons rfl (fun K hK => ?_) AllX.nil
    go_simp
    refine hK.out _ _ (.inr (sOf.out _ hb9)) ?_
    clear hK K
    refine wpAnyX_ready (rs := [11]) (by kernel_rfl) (by simp) ?_
    refine AllX.cons rfl (fun K hK => ?_) AllX.nil
    go_simp
    refine hK.out _ _ (.inr (sOf.out _ hb9)) ?_
    clear hK K
    have hs9 := (sOf.out _ hb9).1
    have hf9 := ((HR0.out.keep0 (Keep.of_below hb9)).tab).frozen 54
    refine wpAnyX_ready (rs := [12]) (by kernel_rfl) (by simp) ?_
    refine AllX.cons rfl (fun K hK => ?_) AllX.nil
    go_simp
    refine hK.out _ _ (.inl rfl) ?_
    clear hK K
    refine wpAnyX_done (by kernel_rfl) ?_ _
    have hTL := HTAIL.out own9 hb9
    rw [Nat.zero_add, show ((len + 1 : Nat) : Int) = (len : Int) + 1 from by omega] at hTL
    have HTL := Lib.hid hTL
    clear hTL hf9 own9 hb9
    go_wp2_with fail
    refine HTL.out.mono ?_
    rintro e w' ⟨rfl, hr, hk⟩
    have HR := Lib.hid hr
    have HK := Lib.hid hk
    clear hr hk
    go_wp2
    go_ret2
    exact ⟨rfl, by rw [HLEN.out]; exact HR.out, HK.out⟩
  refine AllX.cons rfl (fun K hK => ?_) AllX.nil
  go_simp
  refine hK.out _ _ (.inr (sOf.out _ (hW0.alloc hW0.size _))) ?_
  clear hK K
  obtain ⟨W8, e8⟩ : ∃ W, W = W0.alloc (.cells #[.int .u8 o.kind, .int .i64 o.ref, .int .i64 o.pos] 30) := ⟨_, rfl⟩
  have hb8 : Below w0.heap.size w0 W8 := by rw [e8]; exact hW0.alloc hW0.size _
  have blk8 : Blk W8 W0.heap.size 30 (opc o) := by rw [e8]; exact Blk.new W0 30 (opc o)
  have sz8 : Hid (W8.heap.size = W0.heap.size + 1) := by unfold Hid; rw [e8]; simp
  rw [← e8]
  clear e8
  refine wpAnyX_ready (rs := [1]) (by kernel_rfl) (by simp) ?_
  refine AllX.cons rfl (fun K hK => ?_) AllX.nil
  go_simp
  refine hK.out _ _ (.inr (sOf.out _ (hb8.alloc hb8.size _))) ?_
  clear hK K
  obtain ⟨W1, e1⟩ : ∃ W, W = W8.alloc (.cells #[] 30) := ⟨_, rfl⟩
  have hb1 : Below w0.heap.size w0 W1 := by rw [e1]; exact hb8.alloc hb8.size _
  have own1 : W1.ownsRow w0.heap.size 30 3 (.slice (some ⟨W8.heap.size, 0, none⟩) 0 0) 0 [] := by rw [e1]; exact World.ownsRow_made (e := 30) (size := 3) (base := w0.heap.size) W8 #[] 0 hb8.size (by decide) rfl
  have sz1 : Hid (W1.heap.size = W8.heap.size + 1) := by unfold Hid; rw [e1]; simp
  have blk1 : Blk W1 W0.heap.size 30 (opc o) := by rw [e1]; exact blk8.alloc _
  rw [← e1]
  clear e1
  refine wpAnyX_ready (rs := [6]) (by kernel_rfl) (by simp) ?_
  refine AllX.cons rfl (fun K hK => ?_) AllX.nil
  refine step_append_gen rfl _ _ 33 rfl w0.heap.size 30 i0 (.agg #[.int .u8 0, .int .i64 0, .int .i64 0]) 3 24 Try.underlying33 hi hz0 hz1 hz2 rfl (by decide) (.slice (some ⟨W8.heap.size, 0, none⟩) 0 0) (0) ([]) rfl (own1) (A) (len) (cap) (flat S.all) rfl (HHO.out.below hb1) (HFLO.out) (by unfold maxLen; omega) (by omega) hb1.size ?_
  intro v_W6 W6 own6 hg6 hob6
  have hb6 : Below w0.heap.size w0 W6 := hb1.grown hg6 hb1.size (fun j e => ((own1).lt j e).1)
  refine hK.out _ _ (.inr (sOf.out _ hb6)) ?_
  clear hK K
  have blk6 : Blk W6 W0.heap.size 30 (opc o) := (hg6.block _ blk1.lt (by have := sz1.out; have := sz8.out; simp [Value.ownBlock]; omega)).trans blk1
  refine wpAnyX_ready (rs := [9]) (by kernel_rfl) (by simp) ?_
  refine AllX.cons rfl (fun K hK => ?_) AllX.nil
  refine step_append_gen rfl _ _ 33 rfl w0.heap.size 30 i0 (.agg #[.int .u8 0, .int .i64 0, .int .i64 0]) 3 24 Try.underlying33 hi hz0 hz1 hz2 rfl (by decide) (v_W6) (0 + len) ([] ++ flat S.all) rfl (own6) (some ⟨W0.heap.size, 0, none⟩) (1) (1) (opc o) rfl (.inr ⟨_, rfl, rfl, blk6.news⟩) (opc_one o) (by unfold maxLen; omega) (by omega) hb6.size ?_
  intro v_W9 W9 own9 hg9 hob9
  have hb9 : Below w0.heap.size w0 W9 := hb6.grown hg9 hb6.size (fun j e => ((own6).lt j e).1)
  refine hK.out _ _ (.inr (sOf.out _ hb9)) ?_
  clear hK K
  obtain ⟨g9, cap9, rfl, _, _⟩ := own9.form (by omega)
  refine wpAnyX_ready (rs := [10]) (by kernel_rfl) (by simp) ?_
  refine AllX.cons rfl (fun K hK => ?_) AllX.nil
  go_simp
  refine hK.out _ _ (.inr (sOf.out _ hb9)) ?_
  clear hK K
  refine wpAnyX_ready (rs := [11]) (by kernel_rfl) (by simp) ?_
  refine AllX.cons rfl (fun K hK => ?_) AllX.nil
  go_simp
  refine hK.out _ _ (.inr (sOf.out _ hb9)) ?_
  clear hK K
  have hs9 := (sOf.out _ hb9).1
  have hf9 := ((HR0.out.keep0 (Keep.of_below hb9)).tab).frozen 54
  refine wpAnyX_ready (rs := [12]) (by kernel_rfl) (by simp) ?_
  refine AllX.cons rfl (fun K hK => ?_) AllX.nil
  go_simp
  refine hK.out _ _ (.inl rfl) ?_
  clear hK K
  refine wpAnyX_done (by kernel_rfl) ?_ _
  have hTL := HTAIL.out own9 hb9
  rw [Nat.zero_add, show ((len + 1 : Nat) : Int) = (len : Int) + 1 from by omega] at hTL
  have HTL := Lib.hid hTL
  clear hTL hf9 own9 hb9
  go_wp2_with fail
  refine HTL.out.mono ?_
  rintro e w' ⟨rfl, hr, hk⟩
  have HR := Lib.hid hr
  have HK := Lib.hid hk
  clear hr hk
  go_wp2
  go_ret2
  exact ⟨rfl, by rw [HLEN.out]; exact HR.out, HK.out⟩
set_option maxHeartbeats 1000000 in
theorem ropen_any (h : RepR w R S v F) (hb : S.all.length ≤ 1000) (p : Int) (o : Op3) :
    Calls Try.prog 43 #[.pointer (some ⟨R, 0, none⟩), .int .i64 p, opv o] w fun e w' => e = .returned (.tuple #[.int .i64 (openE S p o).1, .int .i64 (openE S p o).2]) ∧ RR w' R (openS S p o) (ext F w w') ∧ Keep (· = R) w w' := by
  have h1 := h.keep0 ((Keep.refl _ w).alloc (.cells #[.int .u8 o.kind, .int .i64 o.ref, .int .i64 o.pos] 30))
  have H1 := rmay_any h1 p
  rcases mayE_cases S p with ⟨hm, _⟩ | ⟨hm, q, rfl, hq, hh⟩
  · have he : openE S p o = (0, 5) := by unfold openE; rw [if_pos hm]
    have hs : openS S p o = S := by unfold openS; rw [he]; rfl
    rw [he, hs]
    rw [hm] at H1
    replace H1 := Lib.hid H1
    have HH := Lib.hid h1
    clear he hs hm h h1
    unfold opv
    go_enter Try.func43, Try.ntmps43
    go_wp2_with fail
    refine H1.out.mono ?_
    rintro e w' ⟨rfl, rfl⟩
    go_wp2
    go_ret2
    exact ⟨rfl, ⟨_, HH.out.more fun _ hb => .inl hb⟩, (Keep.refl _ w).alloc _⟩
  · have hbx : Blk (w.alloc (.cells #[.int .u8 o.kind, .int .i64 o.ref, .int .i64 o.pos] 30)) w.heap.size 30 (opc o) := Blk.new w 30 (opc o)
    have c0 := hbx.cell_of (i := 0) rfl
    have HH := Lib.hid h1
    by_cases hk : badKind o = true
    · have he : openE S q o = (0, 2) := by unfold openE; rw [if_neg (by rw [hm]; decide), if_pos hk]
      have hs : openS S q o = S := by unfold openS; rw [he]; rfl
      rw [he, hs]
      rw [hm] at H1
      replace H1 := Lib.hid H1
      clear he hs hm h h1 hbx
      have hk' : o.kind = 0 ∨ 3 < o.kind := by simpa [badKind] using hk
      clear hk
      unfold opv
      by_cases hz : o.kind = 0
      · have hz1 : (o.kind == 0) = true := by simpa using hz
        clear hk' hz
        go_enter Try.func43, Try.ntmps43
        go_wp2_with fail
        refine H1.out.mono ?_
        rintro e w' ⟨rfl, rfl⟩
        go_wp2
        go_ret2
        exact ⟨rfl, ⟨_, HH.out.more fun _ hb => .inl hb⟩, (Keep.refl _ w).alloc _⟩
      · have hz1 : (o.kind == 0) = false := by simpa using hz
        have hz2 : o.kind > 3 := by omega
        clear hk' hz
        go_enter Try.func43, Try.ntmps43
        go_wp2_with fail
        refine H1.out.mono ?_
        rintro e w' ⟨rfl, rfl⟩
        go_wp2
        go_ret2
        exact ⟨rfl, ⟨_, HH.out.more fun _ hb => .inl hb⟩, (Keep.refl _ w).alloc _⟩
    · by_cases hf : S.free q < 8
      · have he : openE S q o = ((S.free q : Int), 0) := by unfold openE; rw [if_neg (by rw [hm]; decide), if_neg hk]; exact if_pos hf
        have hs : openS S q o = (S.push o).give q (S.all.length + 1) := by unfold openS; rw [he]; rfl
        rw [he, hs]
        exact ropen_ok h hb q o hq hh (by simpa using hk) hf
      · have he : openE S q o = (0, 11) := by unfold openE; rw [if_neg (by rw [hm]; decide), if_neg hk]; exact if_neg hf
        have hs : openS S q o = S := by unfold openS; rw [he]; rfl
        rw [he, hs]
        have hroom : roomE S q = 0 := by
          unfold roomE
          rw [if_neg (by rw [hm]; decide)]
          have : listN S q 8 = List.range 8 := List.filter_eq_self.2 fun j hj => by
            have := S.free_ne q (j := j) (by have := List.mem_range.1 hj; omega)
            simpa using this
          show (8 : Int) - (listN S q 8).length = 0
          rw [this]; rfl
        rw [hm] at H1
        replace H1 := Lib.hid H1
        have H2 := rroom_any h1 q
        rw [hroom] at H2
        replace H2 := Lib.hid H2
        have hk' : ¬ (o.kind = 0 ∨ 3 < o.kind) := by simpa [badKind] using hk
        have hz1 : (o.kind == 0) = false := by simp; omega
        have hz2 : ¬ o.kind > 3 := by omega
        clear he hs hm h h1 hbx hk hk' hroom
        unfold opv
        go_enter Try.func43, Try.ntmps43
        go_wp2_with fail
        refine H1.out.mono ?_
        rintro e w' ⟨rfl, rfl⟩
        go_wp2_with fail
        refine H2.out.mono ?_
        rintro e w0 ⟨rfl, hb0⟩
        have HR := Lib.hid (HH.out.keep0 (Keep.of_below hb0))
        have HB := Lib.hid (((Keep.refl (· = R) w).alloc (.cells #[.int .u8 o.kind, .int .i64 o.ref, .int .i64 o.pos] 30)).trans (Keep.of_below hb0))
        clear hb0
        go_wp2
        go_ret2
        exact ⟨rfl, ⟨_, HR.out.more fun _ hb => .inl hb⟩, HB.out⟩
end
end Go.Proofs.Ytdiginkpclbmdaa
