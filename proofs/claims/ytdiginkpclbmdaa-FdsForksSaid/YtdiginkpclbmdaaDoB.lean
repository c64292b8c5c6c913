/- The walk of do, the rest. -/
import Derived.Test.YtdiginkpclbmdaaDoA
namespace Go.Proofs.Ytdiginkpclbmdaa
open Go.RowKit
attribute [local go_sem] cell_alloc_some frozen_alloc_some
section
variable {a w : World} {T R : Nat} {S : St} {G : Nat → Prop}
theorem Two.ends (h : Two a w T R S S G) (p : Int) :
    Calls Try.prog 12 #[.pointer (some ⟨T, 0, none⟩), .int .i64 p] w fun e w1 => (∃ v, e = .returned (.tuple #[v, .int .i64 (mayE S p)]) ∧ Calls Try.prog 40 #[.pointer (some ⟨R, 0, none⟩), .int .i64 p] w1 fun e w2 =>
      (∃ v2, e = .returned (.tuple #[v2, .int .i64 (mayE S p)]) ∧ Opens w2 v (endO S p) ∧ Opens w2 v2 (endO S p)) ∧ Two a w2 T R (endS S p) (endS S p) G) ∧ Two a w1 T R (endS S p) S G := by
  obtain ⟨FT, FR, ⟨pb, sb, h1⟩, ⟨vr, h2⟩, h3, h4, h5, hR, h6⟩ := h
  refine (end_any h1 (fun b hb => (h4 b hb).1) p).mono ?_
  rintro e w1 ⟨⟨v, rfl, hown⟩, hr, hk⟩
  have hs := h6.size
  have hs1 := hk.size
  have ht1 : Two a w1 T R (endS S p) S G := by
    refine ⟨_, FR, hr, ⟨vr, h2.keep hk (fun b hb hc => h3 b hc hb)⟩, fun b hb hc => ?_, fun b hb => ?_, fun b hb => Nat.lt_of_lt_of_le (h5 b hb) hk.size, hR, h6.thenF hk fun x hx => (h4 x hx).2⟩
    · rcases hb with hb | hb
      · exact h3 b hb hc
      · have := h5 b hc; omega
    · rcases hb with hb | hb
      · exact ⟨Nat.lt_of_lt_of_le (h4 b hb).1 hk.size, (h4 b hb).2⟩
      · exact ⟨hb.2, .inr (by omega)⟩
  refine ⟨⟨v, rfl, ?_⟩, ht1⟩
  have hr2 := h2.keep hk (fun b hb hc => h3 b hc hb)
  have hlR := h5 _ h2.footR
  refine (rend_any hr2 (fun b hb => Nat.lt_of_lt_of_le (h5 b hb) hs1) p).mono ?_
  rintro e w2 ⟨⟨v2, rfl, hown2⟩, hrr, hk2⟩
  have hs2 := hk2.size
  refine ⟨⟨v2, rfl, ownsRow_slc (ownsRow_keep hown hk2 (fun b hb => by subst hb; exact hlR)), ownsRow_slc hown2⟩, _, FR, hr.keep hk2 (fun b hb hc => ?_), ⟨vr, hrr⟩, fun b hb hc => ?_, fun b hb => ?_, fun b hb => Nat.lt_of_lt_of_le (h5 b hb) (Nat.le_trans hs1 hs2), hR, (h6.thenF hk fun x hx => (h4 x hx).2).thenF hk2 fun x hx => by subst hx; exact hR⟩
  · subst hc
    rcases hb with hb | hb
    · exact h3 _ hb h2.footR
    · omega
  · rcases hb with hb | hb
    · exact h3 b hb hc
    · have := h5 b hc; omega
  · rcases hb with hb | hb
    · exact ⟨Nat.lt_of_lt_of_le (h4 b hb).1 (Nat.le_trans hs1 hs2), (h4 b hb).2⟩
    · exact ⟨by omega, .inr (by omega)⟩
set_option maxRecDepth 100000 in
set_option maxHeartbeats 1000000 in
theorem do_end (h : Two a w T R S S G) (p q k : Int) (o : Op3) :
    Calls Try.prog 26 #[.pointer (some ⟨T, 0, none⟩), .pointer (some ⟨R, 0, none⟩), .agg #[.int .i64 1, .int .i64 p, .int .i64 q, .int .i64 k, .int .u8 o.kind, .int .i64 o.ref, .int .i64 o.pos]] w fun e w' =>
      e = .returned (.bool true) ∧ Two a w' T R (endS S p) (endS S p) G := by
  have hk0 : Keep (fun _ => False) w (w.alloc (.cells #[.int .i64 1, .int .i64 p, .int .i64 q, .int .i64 k, .int .u8 o.kind, .int .i64 o.ref, .int .i64 o.pos] 32)) := (Keep.refl _ w).alloc _
  have HEND : Hid (∀ {W : World} {S1 : St}, Two _ W T R S1 S1 (mid a w G) → Two a W T R S1 S1 G) := fun h2 => h2.leave hk0 h.keep
  have hE := h.enter hk0
  have HC : Hid (∀ {W : World} {S1 S2 : St}, Two _ W T R S1 S2 (mid a w G) → _) := fun h2 => box_cells w ⟨1, p, q, k, o⟩ a G h2
  have h1 := hE.ends p
  obtain ⟨d1, d2, d3, d4, d5, d6⟩ := HC.out hE
  have H1 := Lib.hid h1
  have HL : Hid ((endO S p).length ≤ 1000) := by unfold endO; split; simp [Hid]; exact Nat.le_trans (outs_le S _ 8) (by decide)
  clear h hE hk0 h1
  generalize mayE S p = er at *
  generalize endO S p = L at *
  generalize endS S p = S' at *
  go_enter Try.func26, Try.ntmps26
  go_wp2_with fail
  refine H1.out.mono ?_
  rintro e w1 ⟨⟨v, rfl, h3⟩, ht⟩
  obtain ⟨t1, t2, t3, t4, t5, t6⟩ := HC.out ht
  have H3 := Lib.hid h3
  clear ht d1 d2 d3 d4 d5 d6 h3
  go_wp2_with fail
  refine H3.out.mono ?_
  rintro e w2 ⟨⟨v2, rfl, hv, hv2⟩, hu⟩
  have hss := sameOpens_any w2 v v2 L L hv hv2 HL.out
  rw [decide_eq_true rfl] at hss
  have HS := Lib.hid hss
  have HU := Lib.hid hu
  clear hu hss hv hv2 t1 t2 t3 t4 t5 t6
  go_wp2_with fail
  refine HS.out.mono ?_
  rintro e w3 ⟨rfl, n, rfl⟩
  go_wp2
  go_ret
  exact ⟨by simp, HEND.out (HU.out.keep0 (Keep.ofDrew _ _))⟩
set_option maxRecDepth 100000 in
set_option maxHeartbeats 1000000 in
theorem do_other (h : Two a w T R S S G) (op p q k : Int) (o : Op3) (h0 : ¬ op = 0) (h1 : ¬ op = 1) (h2 : ¬ op = 2) (h3 : ¬ op = 3) (h4 : ¬ op = 4) (h5 : ¬ op = 5) (h6 : ¬ op = 6) :
    Calls Try.prog 26 #[.pointer (some ⟨T, 0, none⟩), .pointer (some ⟨R, 0, none⟩), .agg #[.int .i64 op, .int .i64 p, .int .i64 q, .int .i64 k, .int .u8 o.kind, .int .i64 o.ref, .int .i64 o.pos]] w fun e w' =>
      e = .returned (.bool true) ∧ Two a w' T R S S G := by
  have e0 : (op == 0) = false := by simpa using h0
  have e1 : (op == 1) = false := by simpa using h1
  have e2 : (op == 2) = false := by simpa using h2
  have e3 : (op == 3) = false := by simpa using h3
  have e4 : (op == 4) = false := by simpa using h4
  have e5 : (op == 5) = false := by simpa using h5
  have e6 : (op == 6) = false := by simpa using h6
  have HE := Lib.hid (h.keep0 ((Keep.refl _ w).alloc (.cells #[.int .i64 op, .int .i64 p, .int .i64 q, .int .i64 k, .int .u8 o.kind, .int .i64 o.ref, .int .i64 o.pos] 32)))
  clear h h0 h1 h2 h3 h4 h5 h6
  go_enter Try.func26, Try.ntmps26
  go_wp2
  go_ret
  exact ⟨rfl, HE.out⟩
theorem do_any (h : Two a w T R S S G) (hb : S.all.length ≤ 1000) (d : Deed) :
    Calls Try.prog 26 #[.pointer (some ⟨T, 0, none⟩), .pointer (some ⟨R, 0, none⟩), .agg (dcells d).toArray] w fun e w' => e = .returned (.bool true) ∧ Two a w' T R (doS S d) (doS S d) G := by
  obtain ⟨op, p, q, k, o⟩ := d
  unfold doS
  simp only
  by_cases h0 : op = 0
  · subst h0; rw [if_pos rfl]; exact do_begin h p q k o
  rw [if_neg h0]
  by_cases h1 : op = 1
  · subst h1; rw [if_pos rfl]; exact do_end h p q k o
  rw [if_neg h1]
  by_cases h2 : op = 2
  · subst h2; rw [if_pos rfl]; exact do_fork h p q k o
  rw [if_neg h2]
  by_cases h3 : op = 3
  · subst h3; rw [if_pos rfl]; exact do_open h hb p q k o
  rw [if_neg h3]
  by_cases h4 : op = 4
  · subst h4; rw [if_pos rfl]; exact do_dup h p q k o
  rw [if_neg h4]
  by_cases h5 : op = 5
  · subst h5; rw [if_pos rfl]; exact do_close h p q k o
  rw [if_neg h5]
  by_cases h6 : op = 6
  · subst h6; rw [if_pos rfl]; exact do_move h hb p q k o
  rw [if_neg h6]
  exact do_other h op p q k o h0 h1 h2 h3 h4 h5 h6
end
end Go.Proofs.Ytdiginkpclbmdaa
