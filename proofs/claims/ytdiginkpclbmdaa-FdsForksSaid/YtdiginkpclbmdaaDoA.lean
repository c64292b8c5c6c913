/- The walk of do. -/
import Derived.Test.YtdiginkpclbmdaaTwo
namespace Go.Proofs.Ytdiginkpclbmdaa
open Go.RowKit
attribute [local go_sem] cell_alloc_some frozen_alloc_some
section
variable {a w : World} {T R : Nat} {S : St} {G : Nat → Prop}
theorem box_cells (w : World) (d : Deed) (a : World) (G : Nat → Prop) {T R : Nat} {W : World} {S1 S2 : St} (h : Two (w.alloc (.cells (dcells d).toArray 32)) W T R S1 S2 (mid a w G)) :
    W.cell? ⟨w.heap.size, 1, none⟩ = some (.int .i64 d.p) ∧ W.cell? ⟨w.heap.size, 2, none⟩ = some (.int .i64 d.q) ∧ W.cell? ⟨w.heap.size, 3, none⟩ = some (.int .i64 d.k) ∧
      W.cell? ⟨w.heap.size, 4, none⟩ = some (.int .u8 d.o.kind) ∧ W.cell? ⟨w.heap.size, 5, none⟩ = some (.int .i64 d.o.ref) ∧ W.cell? ⟨w.heap.size, 6, none⟩ = some (.int .i64 d.o.pos) := by
  have hb := Blk.new w 32 (dcells d)
  have hk := h.keep
  have hb2 := hb.keep hk (fun hm => by have := hm.2; omega)
  exact ⟨hb2.cell_of rfl, hb2.cell_of rfl, hb2.cell_of rfl, hb2.cell_of rfl, hb2.cell_of rfl, hb2.cell_of rfl⟩
set_option maxRecDepth 100000 in
set_option maxHeartbeats 1000000 in
theorem do_begin (h : Two a w T R S S G) (p q k : Int) (o : Op3) :
    Calls Try.prog 26 #[.pointer (some ⟨T, 0, none⟩), .pointer (some ⟨R, 0, none⟩), .agg #[.int .i64 0, .int .i64 p, .int .i64 q, .int .i64 k, .int .u8 o.kind, .int .i64 o.ref, .int .i64 o.pos]] w fun e w' =>
      e = .returned (.bool true) ∧ Two a w' T R (beginS S p) (beginS S p) G := by
  obtain ⟨a', ha'⟩ : ∃ a', a' = w.alloc (.cells #[.int .i64 0, .int .i64 p, .int .i64 q, .int .i64 k, .int .u8 o.kind, .int .i64 o.ref, .int .i64 o.pos] 32) := ⟨_, rfl⟩
  have hk0 : Keep (fun _ => False) w a' := by rw [ha']; exact (Keep.refl _ w).alloc _
  have HEND : Hid (∀ {W : World} {S1 : St}, Two a' W T R S1 S1 (mid a w G) → Two a W T R S1 S1 G) := fun h2 => h2.leave hk0 h.keep
  have hE := h.enter hk0
  have HC : Hid (∀ {W : World} {S1 S2 : St}, Two a' W T R S1 S2 (mid a w G) → _) := fun h2 => box_cells w ⟨0, p, q, k, o⟩ a G (by rw [ha'] at h2; exact h2)
  have H1 : Hid (∀ (W : World) (S2 : St), Two a' W T R S S2 (mid a w G) → _) := fun W S2 h2 => h2.stepT (Q := fun e _ => e = .returned (.int .i64 (freshE S p))) (S' := beginS S p) (fun F pb sb h hF => begin_any h p)
  have H2 : Hid (∀ (W : World) (S1 : St), Two a' W T R S1 S (mid a w G) → _) := fun W S1 h2 => h2.stepR (Q := fun e _ => e = .returned (.int .i64 (freshE S p))) (S' := beginS S p) (fun F v h hF => (by
    refine (rbegin_any h p).mono ?_
    rintro e w' ⟨rfl, hr, hk⟩
    exact ⟨rfl, ⟨v, hr.more fun _ hb => .inl hb⟩, hk⟩))
  have HE := Lib.hid (hE.keep0 ((Keep.refl _ a').drew))
  have HA := Lib.hid ha'
  clear h hE hk0 ha'
  generalize freshE S p = er at *
  generalize beginS S p = S' at *
  go_enter Try.func26, Try.ntmps26
  go_wp2_with fail
  rw [← HA.out]
  have d1 := (HC.out HE.out).1
  go_region_held3 (fun W => W.cell? ⟨w.heap.size, 1, none⟩ = some (.int .i64 p))
    (first | exact ⟨d1⟩ | exact ⟨t1⟩ | exact ⟨u1⟩ | go_keep)
    (first
      | (go_at_call 11; refine Calls.mono (by exact H1.out _ _ HE.out) ?_; rintro e w1 ⟨rfl, ht⟩; have t1 := (HC.out ht).1; have HT := Lib.hid ht; clear ht)
      | (go_at_call 39; refine Calls.mono (by exact H2.out _ _ HT.out) ?_; rintro e w2 ⟨rfl, hu⟩; have u1 := (HC.out hu).1; have HU := Lib.hid hu; clear hu))
  go_wp2
  go_ret
  exact ⟨by simp, HEND.out HU.out⟩
set_option maxRecDepth 100000 in
set_option maxHeartbeats 1000000 in
theorem do_fork (h : Two a w T R S S G) (p q k : Int) (o : Op3) :
    Calls Try.prog 26 #[.pointer (some ⟨T, 0, none⟩), .pointer (some ⟨R, 0, none⟩), .agg #[.int .i64 2, .int .i64 p, .int .i64 q, .int .i64 k, .int .u8 o.kind, .int .i64 o.ref, .int .i64 o.pos]] w fun e w' =>
      e = .returned (.bool true) ∧ Two a w' T R (forkS S p q) (forkS S p q) G := by
  obtain ⟨a', ha'⟩ : ∃ a', a' = w.alloc (.cells #[.int .i64 2, .int .i64 p, .int .i64 q, .int .i64 k, .int .u8 o.kind, .int .i64 o.ref, .int .i64 o.pos] 32) := ⟨_, rfl⟩
  have hk0 : Keep (fun _ => False) w a' := by rw [ha']; exact (Keep.refl _ w).alloc _
  have HEND : Hid (∀ {W : World} {S1 : St}, Two a' W T R S1 S1 (mid a w G) → Two a W T R S1 S1 G) := fun h2 => h2.leave hk0 h.keep
  have hE := h.enter hk0
  have HC : Hid (∀ {W : World} {S1 S2 : St}, Two a' W T R S1 S2 (mid a w G) → _) := fun h2 => box_cells w ⟨2, p, q, k, o⟩ a G (by rw [ha'] at h2; exact h2)
  have H1 : Hid (∀ (W : World) (S2 : St), Two a' W T R S S2 (mid a w G) → _) := fun W S2 h2 => h2.stepT (Q := fun e _ => e = .returned (.int .i64 (forkE S p q))) (S' := forkS S p q) (fun F pb sb h hF => fork_any h p q)
  have H2 : Hid (∀ (W : World) (S1 : St), Two a' W T R S1 S (mid a w G) → _) := fun W S1 h2 => h2.stepR (Q := fun e _ => e = .returned (.int .i64 (forkE S p q))) (S' := forkS S p q) (fun F v h hF => (by
    refine (rfork_any h p q).mono ?_
    rintro e w' ⟨rfl, hr, hk⟩
    exact ⟨rfl, ⟨v, hr.more fun _ hb => .inl hb⟩, hk⟩))
  have HE := Lib.hid (hE.keep0 ((Keep.refl _ a').drew))
  have HA := Lib.hid ha'
  clear h hE hk0 ha'
  generalize forkE S p q = er at *
  generalize forkS S p q = S' at *
  go_enter Try.func26, Try.ntmps26
  go_wp2_with fail
  rw [← HA.out]
  have d1 := (HC.out HE.out).1; have d2 := (HC.out HE.out).2.1
  go_region_held3 (fun W => W.cell? ⟨w.heap.size, 1, none⟩ = some (.int .i64 p) ∧ W.cell? ⟨w.heap.size, 2, none⟩ = some (.int .i64 q))
    (first | exact ⟨d1, d2⟩ | exact ⟨t1, t2⟩ | exact ⟨u1, u2⟩ | go_keep)
    (first
      | (go_at_call 13; refine Calls.mono (by exact H1.out _ _ HE.out) ?_; rintro e w1 ⟨rfl, ht⟩; have t1 := (HC.out ht).1; have t2 := (HC.out ht).2.1; have HT := Lib.hid ht; clear ht)
      | (go_at_call 42; refine Calls.mono (by exact H2.out _ _ HT.out) ?_; rintro e w2 ⟨rfl, hu⟩; have u1 := (HC.out hu).1; have u2 := (HC.out hu).2.1; have HU := Lib.hid hu; clear hu))
  go_wp2
  go_ret
  exact ⟨by simp, HEND.out HU.out⟩
set_option maxRecDepth 100000 in
set_option maxHeartbeats 1000000 in
theorem do_move (h : Two a w T R S S G) (hb : S.all.length ≤ 1000) (p q k : Int) (o : Op3) :
    Calls Try.prog 26 #[.pointer (some ⟨T, 0, none⟩), .pointer (some ⟨R, 0, none⟩), .agg #[.int .i64 6, .int .i64 p, .int .i64 q, .int .i64 k, .int .u8 o.kind, .int .i64 o.ref, .int .i64 o.pos]] w fun e w' =>
      e = .returned (.bool true) ∧ Two a w' T R (moveS S p k q) (moveS S p k q) G := by
  obtain ⟨a', ha'⟩ : ∃ a', a' = w.alloc (.cells #[.int .i64 6, .int .i64 p, .int .i64 q, .int .i64 k, .int .u8 o.kind, .int .i64 o.ref, .int .i64 o.pos] 32) := ⟨_, rfl⟩
  have hk0 : Keep (fun _ => False) w a' := by rw [ha']; exact (Keep.refl _ w).alloc _
  have HEND : Hid (∀ {W : World} {S1 : St}, Two a' W T R S1 S1 (mid a w G) → Two a W T R S1 S1 G) := fun h2 => h2.leave hk0 h.keep
  have hE := h.enter hk0
  have HC : Hid (∀ {W : World} {S1 S2 : St}, Two a' W T R S1 S2 (mid a w G) → _) := fun h2 => box_cells w ⟨6, p, q, k, o⟩ a G (by rw [ha'] at h2; exact h2)
  have H1 : Hid (∀ (W : World) (S2 : St), Two a' W T R S S2 (mid a w G) → _) := fun W S2 h2 => h2.stepT (Q := fun e _ => e = .returned (.int .i64 (atE S p k))) (S' := moveS S p k q) (fun F pb sb h hF => (by
    refine (move_any h p k q).mono ?_
    rintro e w' ⟨rfl, hr, hk⟩
    exact ⟨rfl, ⟨pb, sb, hr.more fun _ hb => .inl hb⟩, hk⟩))
  have H2 : Hid (∀ (W : World) (S1 : St), Two a' W T R S1 S (mid a w G) → _) := fun W S1 h2 => h2.stepR (Q := fun e _ => e = .returned (.int .i64 (atE S p k))) (S' := moveS S p k q) (fun F v h hF => rmove_any h hb p k q)
  have HE := Lib.hid (hE.keep0 ((Keep.refl _ a').drew))
  have HA := Lib.hid ha'
  clear h hE hk0 ha' hb
  generalize atE S p k = er at *
  generalize moveS S p k q = S' at *
  go_enter Try.func26, Try.ntmps26
  go_wp2_with fail
  rw [← HA.out]
  have d1 := (HC.out HE.out).1; have d2 := (HC.out HE.out).2.1; have d3 := (HC.out HE.out).2.2.1
  go_region_held3 (fun W => W.cell? ⟨w.heap.size, 1, none⟩ = some (.int .i64 p) ∧ W.cell? ⟨w.heap.size, 2, none⟩ = some (.int .i64 q) ∧ W.cell? ⟨w.heap.size, 3, none⟩ = some (.int .i64 k))
    (first | exact ⟨d1, d2, d3⟩ | exact ⟨t1, t2, t3⟩ | exact ⟨u1, u2, u3⟩ | go_keep)
    (first
      | (go_at_call 20; refine Calls.mono (by exact H1.out _ _ HE.out) ?_; rintro e w1 ⟨rfl, ht⟩; have t1 := (HC.out ht).1; have t2 := (HC.out ht).2.1; have t3 := (HC.out ht).2.2.1; have HT := Lib.hid ht; clear ht)
      | (go_at_call 46; refine Calls.mono (by exact H2.out _ _ HT.out) ?_; rintro e w2 ⟨rfl, hu⟩; have u1 := (HC.out hu).1; have u2 := (HC.out hu).2.1; have u3 := (HC.out hu).2.2.1; have HU := Lib.hid hu; clear hu))
  go_wp2
  go_ret
  exact ⟨by simp, HEND.out HU.out⟩
set_option maxRecDepth 100000 in
set_option maxHeartbeats 1000000 in
theorem do_open (h : Two a w T R S S G) (hb : S.all.length ≤ 1000) (p q k : Int) (o : Op3) :
    Calls Try.prog 26 #[.pointer (some ⟨T, 0, none⟩), .pointer (some ⟨R, 0, none⟩), .agg #[.int .i64 3, .int .i64 p, .int .i64 q, .int .i64 k, .int .u8 o.kind, .int .i64 o.ref, .int .i64 o.pos]] w fun e w' =>
      e = .returned (.bool true) ∧ Two a w' T R (openS S p o) (openS S p o) G := by
  obtain ⟨a', ha'⟩ : ∃ a', a' = w.alloc (.cells #[.int .i64 3, .int .i64 p, .int .i64 q, .int .i64 k, .int .u8 o.kind, .int .i64 o.ref, .int .i64 o.pos] 32) := ⟨_, rfl⟩
  have hk0 : Keep (fun _ => False) w a' := by rw [ha']; exact (Keep.refl _ w).alloc _
  have HEND : Hid (∀ {W : World} {S1 : St}, Two a' W T R S1 S1 (mid a w G) → Two a W T R S1 S1 G) := fun h2 => h2.leave hk0 h.keep
  have hE := h.enter hk0
  have HC : Hid (∀ {W : World} {S1 S2 : St}, Two a' W T R S1 S2 (mid a w G) → _) := fun h2 => box_cells w ⟨3, p, q, k, o⟩ a G (by rw [ha'] at h2; exact h2)
  have h1 := hE.stepT (Q := fun e _ => e = .returned (.tuple #[.int .i64 (openE S p o).1, .int .i64 (openE S p o).2])) (S' := openS S p o) (fun F pb sb h hF => open_any h p o)
  have H2 : Hid (∀ (W : World) (S1 : St), Two a' W T R S1 S (mid a w G) → _) := fun W S1 h2 => h2.stepR (Q := fun e _ => e = .returned (.tuple #[.int .i64 (openE S p o).1, .int .i64 (openE S p o).2])) (S' := openS S p o) (fun F v h hF => ropen_any h hb p o)
  have hc := HC.out hE
  subst ha'
  obtain ⟨d1, d2, d3, d4, d5, d6⟩ := hc
  have H1 := Lib.hid h1
  clear h hE hk0 h1 hb
  unfold opv at *
  generalize openE S p o = er at *
  generalize openS S p o = S' at *
  go_enter Try.func26, Try.ntmps26
  go_wp2_with fail
  refine H1.out.mono ?_
  rintro e w1 ⟨rfl, ht⟩
  have hc := HC.out ht
  obtain ⟨t1, t2, t3, t4, t5, t6⟩ := hc
  have H3 := Lib.hid (H2.out _ _ ht)
  have HT := Lib.hid ht
  clear ht d1 d2 d3 d4 d5 d6
  go_wp2_with fail
  refine H3.out.mono ?_
  rintro e w2 ⟨rfl, hu⟩
  have HU := Lib.hid hu
  clear hu t1 t2 t3 t4 t5 t6
  go_wp2
  go_ret
  exact ⟨by simp, HEND.out (HU.out.keep0 (by repeat (first | exact Keep.refl _ _ | apply Keep.alloc | apply Keep.drewN | apply Keep.drew)))⟩
set_option maxRecDepth 100000 in
set_option maxHeartbeats 1000000 in
theorem do_dup (h : Two a w T R S S G) (p q k : Int) (o : Op3) :
    Calls Try.prog 26 #[.pointer (some ⟨T, 0, none⟩), .pointer (some ⟨R, 0, none⟩), .agg #[.int .i64 4, .int .i64 p, .int .i64 q, .int .i64 k, .int .u8 o.kind, .int .i64 o.ref, .int .i64 o.pos]] w fun e w' =>
      e = .returned (.bool true) ∧ Two a w' T R (dupS S p k) (dupS S p k) G := by
  obtain ⟨a', ha'⟩ : ∃ a', a' = w.alloc (.cells #[.int .i64 4, .int .i64 p, .int .i64 q, .int .i64 k, .int .u8 o.kind, .int .i64 o.ref, .int .i64 o.pos] 32) := ⟨_, rfl⟩
  have hk0 : Keep (fun _ => False) w a' := by rw [ha']; exact (Keep.refl _ w).alloc _
  have HEND : Hid (∀ {W : World} {S1 : St}, Two a' W T R S1 S1 (mid a w G) → Two a W T R S1 S1 G) := fun h2 => h2.leave hk0 h.keep
  have hE := h.enter hk0
  have HC : Hid (∀ {W : World} {S1 S2 : St}, Two a' W T R S1 S2 (mid a w G) → _) := fun h2 => box_cells w ⟨4, p, q, k, o⟩ a G (by rw [ha'] at h2; exact h2)
  have h1 := hE.stepT (Q := fun e _ => e = .returned (.tuple #[.int .i64 (dupE S p k).1, .int .i64 (dupE S p k).2])) (S' := dupS S p k) (fun F pb sb h hF => dup_any h p k)
  have H2 : Hid (∀ (W : World) (S1 : St), Two a' W T R S1 S (mid a w G) → _) := fun W S1 h2 => h2.stepR (Q := fun e _ => e = .returned (.tuple #[.int .i64 (dupE S p k).1, .int .i64 (dupE S p k).2])) (S' := dupS S p k) (fun F v h hF => (by
    refine (rdup_any h p k).mono ?_
    rintro e w' ⟨rfl, hr, hk⟩
    exact ⟨rfl, ⟨v, hr.more fun _ hb => .inl hb⟩, hk⟩))
  have hc := HC.out hE
  subst ha'
  obtain ⟨d1, d2, d3, d4, d5, d6⟩ := hc
  have H1 := Lib.hid h1
  clear h hE hk0 h1
  unfold opv at *
  generalize dupE S p k = er at *
  generalize dupS S p k = S' at *
  go_enter Try.func26, Try.ntmps26
  go_wp2_with fail
  refine H1.out.mono ?_
  rintro e w1 ⟨rfl, ht⟩
  have hc := HC.out ht
  obtain ⟨t1, t2, t3, t4, t5, t6⟩ := hc
  have H3 := Lib.hid (H2.out _ _ ht)
  have HT := Lib.hid ht
  clear ht d1 d2 d3 d4 d5 d6
  go_wp2_with fail
  refine H3.out.mono ?_
  rintro e w2 ⟨rfl, hu⟩
  have HU := Lib.hid hu
  clear hu t1 t2 t3 t4 t5 t6
  go_wp2
  go_ret
  exact ⟨by simp, HEND.out (HU.out.keep0 (by repeat (first | exact Keep.refl _ _ | apply Keep.alloc | apply Keep.drewN | apply Keep.drew)))⟩
set_option maxRecDepth 100000 in
set_option maxHeartbeats 1000000 in
theorem do_close (h : Two a w T R S S G) (p q k : Int) (o : Op3) :
    Calls Try.prog 26 #[.pointer (some ⟨T, 0, none⟩), .pointer (some ⟨R, 0, none⟩), .agg #[.int .i64 5, .int .i64 p, .int .i64 q, .int .i64 k, .int .u8 o.kind, .int .i64 o.ref, .int .i64 o.pos]] w fun e w' =>
      e = .returned (.bool true) ∧ Two a w' T R (closeS S p k) (closeS S p k) G := by
  obtain ⟨a', ha'⟩ : ∃ a', a' = w.alloc (.cells #[.int .i64 5, .int .i64 p, .int .i64 q, .int .i64 k, .int .u8 o.kind, .int .i64 o.ref, .int .i64 o.pos] 32) := ⟨_, rfl⟩
  have hk0 : Keep (fun _ => False) w a' := by rw [ha']; exact (Keep.refl _ w).alloc _
  have HEND : Hid (∀ {W : World} {S1 : St}, Two a' W T R S1 S1 (mid a w G) → Two a W T R S1 S1 G) := fun h2 => h2.leave hk0 h.keep
  have hE := h.enter hk0
  have HC : Hid (∀ {W : World} {S1 S2 : St}, Two a' W T R S1 S2 (mid a w G) → _) := fun h2 => box_cells w ⟨5, p, q, k, o⟩ a G (by rw [ha'] at h2; exact h2)
  have h1 := hE.stepT (Q := fun e _ => e = .returned (.tuple #[opv (closeE S p k).1, .bool (closeE S p k).2, .int .i64 (atE S p k)])) (S' := closeS S p k) (fun F pb sb h hF => close_any h hF p k)
  have H2 : Hid (∀ (A W : World) (S1 : St) (H : Nat → Prop), Two A W T R S1 S H → _) := fun A W S1 H h2 => h2.stepR (Q := fun e _ => e = .returned (.tuple #[opv (closeE S p k).1, .bool (closeE S p k).2, .int .i64 (atE S p k)])) (S' := closeS S p k) (fun F v h hF => (by
    refine (rclose_any h hF p k).mono ?_
    rintro e w' ⟨rfl, hr, hk⟩
    exact ⟨rfl, ⟨v, hr.more fun _ hb => .inl hb⟩, hk⟩))
  have hc := HC.out hE
  subst ha'
  obtain ⟨d1, d2, d3, d4, d5, d6⟩ := hc
  have H1 := Lib.hid h1
  clear h hE hk0 h1
  unfold opv at *
  generalize closeE S p k = cr at *
  generalize atE S p k = er at *
  generalize closeS S p k = S' at *
  go_enter Try.func26, Try.ntmps26
  go_wp2_with fail
  refine H1.out.mono ?_
  rintro e w1 ⟨rfl, ht⟩
  have hc := HC.out ht
  obtain ⟨t1, t2, t3, t4, t5, t6⟩ := hc
  have hn := ht.enter ((Keep.refl _ w1).alloc (.cells #[.int .u8 cr.1.kind, .int .i64 cr.1.ref, .int .i64 cr.1.pos] 30))
  have H3 := Lib.hid (H2.out _ _ _ _ hn)
  have HB := Lib.hid (Blk.new w1 30 (opc cr.1))
  clear hn
  have HT := Lib.hid ht
  clear ht d1 d2 d3 d4 d5 d6
  go_wp2_with fail
  refine H3.out.mono ?_
  rintro e w2 ⟨rfl, hu⟩
  have hb2 := HB.out.keep hu.keep (fun hm => by have := hm.2; omega)
  have b0 := hb2.cell_of (i := 0) rfl
  have b1 := hb2.cell_of (i := 1) rfl
  have b2 := hb2.cell_of (i := 2) rfl
  have HU := Lib.hid (hu.leave ((Keep.refl _ w1).alloc _) HT.out.keep)
  clear hu hb2 t1 t2 t3 t4 t5 t6
  go_wp2
  go_ret
  exact ⟨by simp, HEND.out (HU.out.keep0 (by repeat (first | exact Keep.refl _ _ | apply Keep.alloc | apply Keep.drewN | apply Keep.drew)))⟩
end
end Go.Proofs.Ytdiginkpclbmdaa
