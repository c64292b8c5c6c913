/- Both disks and memories in one memory; what is done to both. -/
import Derived.Test.YtjlenocmfeggdaaRefM
import Derived.Test.YtjlenocmfeggdaaRefO
import Derived.Test.YtjlenocmfeggdaaImpP
namespace Go.Proofs.Ytjlenocmfeggdaa
open Go.RowKit
attribute [local go_sem] cell_alloc_some frozen_alloc_some
/-- since a, nothing but what is in G has turned; the program's disk is at D, its memory at M -/
def One (a w : World) (D M : Nat) (S : St) (G : Nat → Prop) : Prop :=
  ∃ F, RT w D M S F ∧ (∀ b, F b → b < w.heap.size ∧ (G b ∨ a.heap.size ≤ b)) ∧ Keep G a w
/-- .. and the document's at R and Q -/
def Two (a w : World) (D M R Q : Nat) (S S2 : St) (G : Nat → Prop) : Prop :=
  ∃ FT FR V, RT w D M S FT ∧ RR w R Q S2 V FR ∧ (∀ b, FT b → ¬ FR b) ∧ (∀ b, FT b → b < w.heap.size ∧ (G b ∨ a.heap.size ≤ b)) ∧ (∀ b, FR b → b < w.heap.size) ∧ (∀ b, V b → G b ∨ a.heap.size ≤ b) ∧ Keep G a w
section
variable {a w w' : World} {D M R Q : Nat} {S S2 S' : St} {G : Nat → Prop} {f : FuncId} {args : Array Value} {P : Ending → World → Prop}
theorem One.keep (h : One a w D M S G) : Keep G a w := by obtain ⟨_, _, _, h⟩ := h; exact h
theorem Two.keep (h : Two a w D M R Q S S2 G) : Keep G a w := by obtain ⟨_, _, _, _, _, _, _, _, _, h⟩ := h; exact h
theorem RT.keep {F H : Nat → Prop} (h : RT w D M S F) (hk : Keep H w w') (hd : ∀ b, F b → ¬ H b) : RT w' D M S F := by
  obtain ⟨v, sb, fb, T, h⟩ := h; exact ⟨v, sb, fb, T, h.keep hk hd⟩
theorem RR.keep {V F H : Nat → Prop} (h : RR w R Q S V F) (hk : Keep H w w') (hd : ∀ b, F b → ¬ H b) : RR w' R Q S V F := by
  obtain ⟨v, sv, bv, iv, h⟩ := h; exact ⟨v, sv, bv, iv, h.keep hk hd⟩
theorem RR.wF {V F : Nat → Prop} (h : RR w R Q S V F) : ∀ b, V b → F b := by obtain ⟨v, sv, bv, iv, h⟩ := h; exact h.wF
theorem One.keep0 (h : One a w D M S G) (hk : Keep none_ w w') : One a w' D M S G := by
  obtain ⟨F, h1, h2, h3⟩ := h
  exact ⟨F, h1.keep hk (fun _ _ => id), fun b hb => ⟨Nat.lt_of_lt_of_le (h2 b hb).1 hk.size, (h2 b hb).2⟩, h3.trans (hk.mono fun _ => False.elim)⟩
theorem Two.keep0 (h : Two a w D M R Q S S2 G) (hk : Keep none_ w w') : Two a w' D M R Q S S2 G := by
  obtain ⟨FT, FR, V, h1, h2, h3, h4, h5, hV, h6⟩ := h
  exact ⟨FT, FR, V, h1.keep hk (fun _ _ => id), h2.keep hk (fun _ _ => id), h3, fun b hb => ⟨Nat.lt_of_lt_of_le (h4 b hb).1 hk.size, (h4 b hb).2⟩, fun b hb => Nat.lt_of_lt_of_le (h5 b hb) hk.size, hV, h6.trans (hk.mono fun _ => False.elim)⟩
theorem Two.one (h : Two a w D M R Q S S2 G) : One a w D M S G := by
  obtain ⟨FT, FR, V, h1, h2, h3, h4, h5, hV, h6⟩ := h
  exact ⟨FT, h1, h4, h6⟩
theorem One.inv (h : One a w D M S G) : S.Inv := by
  obtain ⟨F, ⟨v, sb, fb, T, h⟩, _⟩ := h; exact h.inv
theorem One.step (h : One a w D M S G) (c : ∀ F v sb fb T, RepT w D M S v sb fb T F → (∀ b, F b → b < w.heap.size) → Calls Try.prog f args w fun e w' => P e w' ∧ RT w' D M S' (ext F w w') ∧ Keep F w w') :
    Calls Try.prog f args w fun e w' => P e w' ∧ One a w' D M S' G := by
  obtain ⟨F, ⟨v, sb, fb, T, h1⟩, h2, h3⟩ := h
  refine (c F v sb fb T h1 (fun b hb => (h2 b hb).1)).mono ?_
  rintro e w' ⟨hq, hr, hk⟩
  have hs := h3.size
  refine ⟨hq, _, hr, fun b hb => ?_, h3.thenF hk fun x hx => (h2 x hx).2⟩
  rcases hb with hb | hb
  · exact ⟨Nat.lt_of_lt_of_le (h2 b hb).1 hk.size, (h2 b hb).2⟩
  · exact ⟨hb.2, .inr (by omega)⟩
theorem Two.stepT (h : Two a w D M R Q S S2 G) (c : ∀ F v sb fb T, RepT w D M S v sb fb T F → (∀ b, F b → b < w.heap.size) → Calls Try.prog f args w fun e w' => P e w' ∧ RT w' D M S' (ext F w w') ∧ Keep F w w') :
    Calls Try.prog f args w fun e w' => P e w' ∧ Two a w' D M R Q S' S2 G := by
  obtain ⟨FT, FR, V, ⟨v, sb, fb, T, h1⟩, h2, h3, h4, h5, hV, h6⟩ := h
  refine (c FT v sb fb T h1 (fun b hb => (h4 b hb).1)).mono ?_
  rintro e w' ⟨hq, hr, hk⟩
  have hs := h6.size
  refine ⟨hq, _, FR, V, hr, h2.keep hk (fun b hb hc => h3 b hc hb), fun b hb hc => ?_, fun b hb => ?_, fun b hb => Nat.lt_of_lt_of_le (h5 b hb) hk.size, hV, h6.thenF hk fun x hx => (h4 x hx).2⟩
  · rcases hb with hb | hb
    · exact h3 b hb hc
    · have := h5 b hc; omega
  · rcases hb with hb | hb
    · exact ⟨Nat.lt_of_lt_of_le (h4 b hb).1 hk.size, (h4 b hb).2⟩
    · exact ⟨hb.2, .inr (by omega)⟩
theorem Two.stepR (h : Two a w D M R Q S S2 G) (c : ∀ V F v sv bv iv, RepR w R Q S2 v sv bv iv V F → (∀ b, F b → b < w.heap.size) → Calls Try.prog f args w fun e w' => P e w' ∧ RR w' R Q S' V (ext F w w') ∧ Keep V w w') :
    Calls Try.prog f args w fun e w' => P e w' ∧ Two a w' D M R Q S S' G := by
  obtain ⟨FT, FR, V, h1, ⟨v, sv, bv, iv, h2⟩, h3, h4, h5, hV, h6⟩ := h
  refine (c V FR v sv bv iv h2 (fun b hb => h5 b hb)).mono ?_
  rintro e w' ⟨hq, hr, hk⟩
  have hs := h6.size
  refine ⟨hq, FT, _, V, h1.keep hk (fun b hb hc => h3 b hb (h2.wF b hc)), hr, fun b hb hc => ?_, fun b hb => ⟨Nat.lt_of_lt_of_le (h4 b hb).1 hk.size, (h4 b hb).2⟩, fun b hb => ?_, hV, h6.thenF hk fun x hx => hV x hx⟩
  · rcases hc with hc | hc
    · exact h3 b hb hc
    · have := (h4 b hb).1; omega
  · rcases hb with hb | hb
    · exact Nat.lt_of_lt_of_le (h5 b hb) hk.size
    · exact hb.2
/-- what only reads -/
theorem Two.readT (h : Two a w D M R Q S S2 G) (c : ∀ F v sb fb T, RepT w D M S v sb fb T F → Calls Try.prog f args w fun e w' => P e w' ∧ Keep none_ w w') :
    Calls Try.prog f args w fun e w' => P e w' ∧ Keep none_ w w' := by
  obtain ⟨FT, FR, V, ⟨v, sb, fb, T, h1⟩, _⟩ := h
  exact c FT v sb fb T h1
theorem Two.readR (h : Two a w D M R Q S S2 G) (c : ∀ V F v sv bv iv, RepR w R Q S2 v sv bv iv V F → Calls Try.prog f args w fun e w' => P e w' ∧ Keep none_ w w') :
    Calls Try.prog f args w fun e w' => P e w' ∧ Keep none_ w w' := by
  obtain ⟨FT, FR, V, _, ⟨v, sv, bv, iv, h1⟩, _⟩ := h
  exact c V FR v sv bv iv h1
theorem One.read (h : One a w D M S G) (c : ∀ F v sb fb T, RepT w D M S v sb fb T F → Calls Try.prog f args w fun e w' => P e w' ∧ Keep none_ w w') :
    Calls Try.prog f args w fun e w' => P e w' ∧ Keep none_ w w' := by
  obtain ⟨F, ⟨v, sb, fb, T, h1⟩, _⟩ := h
  exact c F v sb fb T h1
/-- what a world in between has beyond a -/
def mid (a w : World) (G : Nat → Prop) (b : Nat) : Prop := (G b ∨ a.heap.size ≤ b) ∧ b < w.heap.size
theorem Two.enter (h : Two a w D M R Q S S2 G) (hk : Keep none_ w w') : Two w' w' D M R Q S S2 (mid a w G) := by
  obtain ⟨FT, FR, V, h1, h2, h3, h4, h5, hV, h6⟩ := h
  exact ⟨FT, FR, V, h1.keep hk (fun _ _ => id), h2.keep hk (fun _ _ => id), h3, fun b hb => ⟨Nat.lt_of_lt_of_le (h4 b hb).1 hk.size, .inl ⟨(h4 b hb).2, (h4 b hb).1⟩⟩, fun b hb => Nat.lt_of_lt_of_le (h5 b hb) hk.size, fun b hb => .inl ⟨hV b hb, h5 b (h2.wF b hb)⟩, Keep.refl _ _⟩
theorem Two.leave {a' w0 : World} (h : Two a' w D M R Q S S2 (mid a w0 G)) (hk : Keep none_ w0 a') (h0 : Keep G a w0) : Two a w D M R Q S S2 G := by
  obtain ⟨FT, FR, V, h1, h2, h3, h4, h5, hV, h6⟩ := h
  have e1 := hk.size
  have e2 := h0.size
  have key : ∀ b, (mid a w0 G b ∨ a'.heap.size ≤ b) → G b ∨ a.heap.size ≤ b := fun b hb => by
    rcases hb with hb | hb
    · exact hb.1
    · exact .inr (by omega)
  exact ⟨FT, FR, V, h1, h2, h3, fun b hb => ⟨(h4 b hb).1, key b (h4 b hb).2⟩, h5, fun b hb => key b (hV b hb), (h0.trans (hk.mono fun _ => False.elim)).thenF h6 fun x hx => hx.1⟩
theorem Bytes.keep0 {v : Value} {l : List UInt8} (h : Bytes w v l) (hk : Keep none_ w w') : Bytes w' v l := by
  obtain ⟨A, c, e, h1, h2⟩ := h
  exact ⟨A, c, e, h1, h2.keep hk (fun _ _ => id)⟩
/-- the deeds, on both -/
theorem Two.ask (h : Two a w D M R Q S S G) (hl : S.last ≤ 1000) (r : Req) : Calls Try.prog 16 #[.pointer (some ⟨D, 0, none⟩), .agg (reqc r).toArray] w fun e w' => e = .returned (.tuple #[.int .u32 (askN S r), .int .i64 (askE S r)]) ∧ Two a w' D M R Q (askS S r) S G :=
  h.stepT fun F v sb fb T h1 hF => by
    by_cases he : askE S r = 0
    · have e1 : askN S r = (S.last : Int) + 1 := by unfold askN; rw [if_pos he]
      rw [e1, he]
      exact ask_ok h1 hl r he
    · have e1 : askN S r = 0 := by unfold askN; rw [if_neg he]
      have e2 : askS S r = S := by unfold askS; rw [if_neg he]
      rw [e1, e2]
      refine (ask_err h1 r he).mono ?_
      rintro e w' ⟨rfl, hk⟩
      exact ⟨rfl, ⟨v, sb, fb, T, (h1.keep0 hk).more fun b hb => .inl hb⟩, hk.mono fun _ hx => hx.elim⟩
theorem Two.rask {S1 : St} (h : Two a w D M R Q S1 S G) (hl : S.last ≤ 1000) (r : Req) : Calls Try.prog 60 #[.pointer (some ⟨R, 0, none⟩), .agg (reqc r).toArray] w fun e w' => e = .returned (.tuple #[.int .u32 (askN S r), .int .i64 (askE S r)]) ∧ Two a w' D M R Q S1 (askS S r) G :=
  h.stepR fun V F v sv bv iv h1 hF => by
    by_cases he : askE S r = 0
    · have e1 : askN S r = (S.last : Int) + 1 := by unfold askN; rw [if_pos he]
      rw [e1, he]
      refine (rask_ok h1 hl r he).mono ?_
      rintro e w' ⟨rfl, ⟨v', hr⟩, hk⟩
      exact ⟨rfl, ⟨v', sv, bv, iv, hr⟩, hk.mono fun b hb => by subst hb; exact h1.wR⟩
    · have e1 : askN S r = 0 := by unfold askN; rw [if_neg he]
      have e2 : askS S r = S := by unfold askS; rw [if_neg he]
      rw [e1, e2]
      refine (rask_err h1 r he).mono ?_
      rintro e w' ⟨rfl, hk⟩
      exact ⟨rfl, ⟨v, sv, bv, iv, (h1.keep0 hk).more (fun b hb => .inl hb) (fun _ hb => hb) (fun b hb => .inl (h1.wF b hb))⟩, hk.mono fun _ hx => hx.elim⟩
theorem Two.deliver (h : Two a w D M R Q S S2 G) (i : Int) : Calls Try.prog 17 #[.pointer (some ⟨D, 0, none⟩), .int .i64 i, .pointer (some ⟨M, 0, none⟩)] w fun e w' => e = .returned (.tuple #[.agg (reqc (delR S i)).toArray, .int .i64 (delE S i)]) ∧ Two a w' D M R Q (delS S i) S2 G :=
  h.stepT fun F v sb fb T h1 hF => by
    refine (deliver_any h1 hF i).mono ?_
    rintro e w' ⟨rfl, ⟨v', hr⟩, hk⟩
    exact ⟨rfl, ⟨v', sb, fb, T, hr.more fun b hb => .inl hb⟩, hk⟩
theorem Two.rdeliver {S1 : St} (h : Two a w D M R Q S1 S G) (i : Int) : Calls Try.prog 61 #[.pointer (some ⟨R, 0, none⟩), .int .i64 i, .pointer (some ⟨Q, 0, none⟩)] w fun e w' => e = .returned (.tuple #[.agg (reqc (delR S i)).toArray, .int .i64 (delE S i)]) ∧ Two a w' D M R Q S1 (delS S i) G :=
  h.stepR fun V F v sv bv iv h1 hF => by
    refine (rdeliver_any h1 hF i).mono ?_
    rintro e w' ⟨rfl, ⟨v', iv', hr⟩, hk⟩
    exact ⟨rfl, ⟨v', sv, bv, iv', hr⟩, hk⟩
def IdsAt (w : World) (base : Nat) (u : Value) (l : List Int) : Prop := w.ownsRow base 42 1 u l.length (l.map u32v)
theorem Two.both {l : List Int} {g : FuncId} {args' : Array Value} {S2' : St} (h : Two a w D M R Q S S2 G)
    (cT : ∀ F v sb fb T, RepT w D M S v sb fb T F → Calls Try.prog f args w fun e w' => (∃ u, e = .returned u ∧ IdsAt w' w.heap.size u l) ∧ RT w' D M S' (ext F w w') ∧ Keep F w w')
    (cR : ∀ w1 V F v sv bv iv, RepR w1 R Q S2 v sv bv iv V F → Calls Try.prog g args' w1 fun e w' => (∃ u, e = .returned u ∧ IdsAt w' w1.heap.size u l) ∧ RR w' R Q S2' V (ext F w1 w') ∧ Keep V w1 w') :
    Calls Try.prog f args w fun e w1 => (∃ u, e = .returned u ∧ Calls Try.prog g args' w1 fun e w2 => (∃ u2, e = .returned u2 ∧ IdsAt w2 w.heap.size u l ∧ IdsAt w2 w.heap.size u2 l) ∧ Two a w2 D M R Q S' S2' G) ∧ Two a w1 D M R Q S' S2 G := by
  obtain ⟨FT, FR, V, ⟨v, sb, fb, T, h1⟩, ⟨vr, svr, bvr, ivr, h2⟩, h3, h4, h5, hV, h6⟩ := h
  refine (cT FT v sb fb T h1).mono ?_
  rintro e w1 ⟨⟨u, rfl, hu⟩, hr, hk⟩
  have hs := h6.size
  have hs1 := hk.size
  have hr2 := h2.keep hk (fun b hb hc => h3 b hc hb)
  have t1 : ∀ b, ext FT w w1 b → ¬ FR b := fun b hb hc => by
    rcases hb with hb | hb
    · exact h3 b hb hc
    · have := h5 b hc; omega
  have t2 : ∀ b, ext FT w w1 b → b < w1.heap.size ∧ (G b ∨ a.heap.size ≤ b) := fun b hb => by
    rcases hb with hb | hb
    · exact ⟨Nat.lt_of_lt_of_le (h4 b hb).1 hk.size, (h4 b hb).2⟩
    · exact ⟨hb.2, .inr (by omega)⟩
  have k1 : Keep G a w1 := h6.thenF hk fun x hx => (h4 x hx).2
  refine ⟨⟨u, rfl, ?_⟩, _, FR, V, hr, ⟨_, _, _, _, hr2⟩, t1, t2, fun b hb => Nat.lt_of_lt_of_le (h5 b hb) hk.size, hV, k1⟩
  refine (cR w1 V FR vr svr bvr ivr hr2).mono ?_
  rintro e w2 ⟨⟨u2, rfl, hu2⟩, hrr, hk2⟩
  have hs2 := hk2.size
  refine ⟨⟨u2, rfl, ownsRow_keep hu hk2 (fun b hb hc => by have := (ownsRow_lt hu hb).1; have := h5 b (h2.wF b hc); omega), ownsRow_base hu2 hs1⟩, _, _, V, hr.keep hk2 (fun b hb hc => t1 b hb (h2.wF b hc)), hrr, fun b hb hc => ?_, fun b hb => ⟨Nat.lt_of_lt_of_le (t2 b hb).1 hs2, (t2 b hb).2⟩, fun b hb => ?_, hV, k1.thenF hk2 fun x hx => hV x hx⟩
  · rcases hc with hc | hc
    · exact t1 b hb hc
    · have := (t2 b hb).1; omega
  · rcases hb with hb | hb
    · exact Nat.lt_of_lt_of_le (Nat.lt_of_lt_of_le (h5 b hb) hs1) hs2
    · exact hb.2
theorem Two.cancels (h : Two a w D M R Q S S G) (i : Int) :
    Calls Try.prog 19 #[.pointer (some ⟨D, 0, none⟩), .int .i64 i] w fun e w1 => (∃ u, e = .returned u ∧ Calls Try.prog 63 #[.pointer (some ⟨R, 0, none⟩), .int .i64 i] w1 fun e w2 => (∃ u2, e = .returned u2 ∧ IdsAt w2 w.heap.size u (outL S (ofFrame i)) ∧ IdsAt w2 w.heap.size u2 (outL S (ofFrame i))) ∧ Two a w2 D M R Q (outS S (ofFrame i)) (outS S (ofFrame i)) G) ∧ Two a w1 D M R Q (outS S (ofFrame i)) S G :=
  h.both (fun F v sb fb T h1 => by
    refine (cancel_any h1 i).mono ?_
    rintro e w' ⟨u, rfl, ho, ⟨v', hr⟩, hk⟩
    exact ⟨⟨u, rfl, ho⟩, ⟨v', sb, fb, T, hr.more fun b hb => .inl hb⟩, hk⟩) (fun w1 V F v sv bv iv h1 => by
    refine (rcancel_any h1 i).mono ?_
    rintro e w' ⟨u, rfl, ho, ⟨v', hr⟩, hk⟩
    exact ⟨⟨u, rfl, ho⟩, ⟨v', sv, bv, iv, hr⟩, hk.mono fun b hb => by subst hb; exact h1.wR⟩)
theorem Two.drops (h : Two a w D M R Q S S G) (o : Int) :
    Calls Try.prog 15 #[.pointer (some ⟨D, 0, none⟩), .int .u8 o] w fun e w1 => (∃ u, e = .returned u ∧ Calls Try.prog 64 #[.pointer (some ⟨R, 0, none⟩), .int .u8 o] w1 fun e w2 => (∃ u2, e = .returned u2 ∧ IdsAt w2 w.heap.size u (outL S (ofOwner o)) ∧ IdsAt w2 w.heap.size u2 (outL S (ofOwner o))) ∧ Two a w2 D M R Q (outS S (ofOwner o)) (outS S (ofOwner o)) G) ∧ Two a w1 D M R Q (outS S (ofOwner o)) S G :=
  h.both (fun F v sb fb T h1 => by
    refine (drop_any h1 o).mono ?_
    rintro e w' ⟨u, rfl, ho, ⟨v', hr⟩, hk⟩
    exact ⟨⟨u, rfl, ho⟩, ⟨v', sb, fb, T, hr.more fun b hb => .inl hb⟩, hk⟩) (fun w1 V F v sv bv iv h1 => by
    refine (rdrop_any h1 o).mono ?_
    rintro e w' ⟨u, rfl, ho, ⟨v', hr⟩, hk⟩
    exact ⟨⟨u, rfl, ho⟩, ⟨v', sv, bv, iv, hr⟩, hk.mono fun b hb => by subst hb; exact h1.wR⟩)
theorem Two.set (h : Two a w D M R Q S S2 G) (i : Int) (u : Value) (b : List UInt8) (hu : Bytes w u b) : Calls Try.prog 23 #[.pointer (some ⟨D, 0, none⟩), .int .i64 i, u] w fun e w' => e = .returned (.int .i64 (setE S i b)) ∧ Two a w' D M R Q (setS S i b) S2 G :=
  h.stepT fun F v sb fb T h1 hF => by
    refine (set_any h1 i u b hu).mono ?_
    rintro e w' ⟨rfl, hr, hk⟩
    exact ⟨rfl, ⟨v, sb, fb, T, hr.more fun b hb => .inl hb⟩, hk.mono fun x hx => by subst hx; exact h1.footS⟩
theorem Two.rset {S1 : St} (h : Two a w D M R Q S1 S G) (i : Int) (u : Value) (b : List UInt8) (hu : Bytes w u b) : Calls Try.prog 65 #[.pointer (some ⟨R, 0, none⟩), .int .i64 i, u] w fun e w' => e = .returned (.int .i64 (setE S i b)) ∧ Two a w' D M R Q S1 (setS S i b) G :=
  h.stepR fun V F v sv bv iv h1 hF => by
    refine (rset_any h1 i u b hu).mono ?_
    rintro e w' ⟨rfl, ⟨iv', hr⟩, hk⟩
    exact ⟨rfl, ⟨v, sv, bv, iv', hr⟩, hk.mono fun x hx => h1.wS x hx⟩
theorem Two.poke (h : Two a w D M R Q S S2 G) (i : Int) (c : UInt8) : Calls Try.prog 12 #[.pointer (some ⟨M, 0, none⟩), .int .i64 i, .int .i64 0, byv c] w fun e w' => e = .returned (.int .i64 (pokeE S i 0)) ∧ Two a w' D M R Q (pokeS S i 0 c) S2 G :=
  h.stepT fun F v sb fb T h1 hF => by
    refine (setbyte_any h1 i 0 c).mono ?_
    rintro e w' ⟨rfl, hr, hk⟩
    exact ⟨rfl, ⟨v, sb, fb, T, hr.more fun b hb => .inl hb⟩, hk.mono fun x hx => by subst hx; exact h1.footF⟩
theorem Two.rpoke {S1 : St} (h : Two a w D M R Q S1 S G) (i : Int) (c : UInt8) : Calls Try.prog 66 #[.pointer (some ⟨Q, 0, none⟩), .int .i64 i, .int .i64 0, byv c] w fun e w' => e = .returned (.int .i64 (pokeE S i 0)) ∧ Two a w' D M R Q S1 (pokeS S i 0 c) G :=
  h.stepR fun V F v sv bv iv h1 hF => by
    refine (rsetbyte_any h1 i 0 c).mono ?_
    rintro e w' ⟨rfl, hr, hk⟩
    exact ⟨rfl, ⟨v, sv, bv, iv, hr.more (fun b hb => .inl hb) (fun _ hb => hb) (fun b hb => .inl (h1.wF b hb))⟩, hk.mono fun x hx => h1.wB x hx⟩
end
/-- a deed -/
structure Deed where
  op : Int
  i : Int
  r : Req
  b : List UInt8
  bv : Value
def dcells (d : Deed) : List Value := [.int .i64 d.op, .int .i64 d.i, .int .u32 d.r.id, .bool d.r.wr, .int .i64 d.r.sec, .int .i64 d.r.fr, .int .u8 d.r.own, d.bv]
def doS (S : St) (d : Deed) : St :=
  if d.op = 0 then askS S d.r else if d.op = 1 then delS S d.i else if d.op = 2 then outS S (ofFrame d.i) else if d.op = 3 then outS S (ofOwner d.r.own) else if d.op = 4 then setS S d.i d.b
  else if d.op = 5 then (if d.b = [] then S else pokeS S d.i 0 (d.b.headD 0)) else S
theorem last_do (S : St) (d : Deed) : (doS S d).last ≤ S.last + 1 := by
  have h0 : (askS S d.r).last ≤ S.last + 1 := by unfold askS; split <;> simp
  have h1 : (delS S d.i).last = S.last := by unfold delS St.move St.pop; (repeat' split) <;> rfl
  have h2 : ∀ p, (outS S p).last = S.last := fun _ => rfl
  have h4 : (setS S d.i d.b).last = S.last := by unfold setS; split <;> rfl
  have h5 : ∀ c, (pokeS S d.i 0 c).last = S.last := fun c => by unfold pokeS; split <;> rfl
  have h6 := h5 (d.b.headD 0)
  unfold doS
  repeat' split
  all_goals first | exact h0 | (rw [h1]; omega) | (rw [h2]; omega) | (rw [h4]; omega) | (rw [h6]; omega) | omega
theorem two_shape (S : St) (d : Deed) : (doS S d).ns = S.ns ∧ (doS S d).nf = S.nf := by
  have h0 : (askS S d.r).ns = S.ns ∧ (askS S d.r).nf = S.nf := by unfold askS; split <;> exact ⟨rfl, rfl⟩
  have h1 : (delS S d.i).ns = S.ns ∧ (delS S d.i).nf = S.nf := by unfold delS St.move St.pop; (repeat' split) <;> exact ⟨rfl, rfl⟩
  have h2 : ∀ p, (outS S p).ns = S.ns ∧ (outS S p).nf = S.nf := fun _ => ⟨rfl, rfl⟩
  have h4 : (setS S d.i d.b).ns = S.ns ∧ (setS S d.i d.b).nf = S.nf := by unfold setS; split <;> exact ⟨rfl, rfl⟩
  have h5 : ∀ c, (pokeS S d.i 0 c).ns = S.ns ∧ (pokeS S d.i 0 c).nf = S.nf := fun c => by unfold pokeS; split <;> exact ⟨rfl, rfl⟩
  have h6 := h5 (d.b.headD 0)
  unfold doS
  repeat' split
  all_goals first | exact h0 | exact h1 | exact h2 _ | exact h4 | exact h6 | exact ⟨rfl, rfl⟩
end Go.Proofs.Ytjlenocmfeggdaa
