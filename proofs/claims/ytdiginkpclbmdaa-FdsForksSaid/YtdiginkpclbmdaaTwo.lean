/- Both tables in one memory; what is done to both. -/
import Derived.Test.YtdiginkpclbmdaaRefJ
namespace Go.Proofs.Ytdiginkpclbmdaa
open Go.RowKit
attribute [local go_sem] cell_alloc_some frozen_alloc_some
/-- since a, nothing but what is in G has turned; the program's table is at T (S), in blocks of G and new ones -/
def One (a w : World) (T : Nat) (S : St) (G : Nat → Prop) : Prop :=
  ∃ F, RT w T S F ∧ (∀ b, F b → b < w.heap.size ∧ (G b ∨ a.heap.size ≤ b)) ∧ Keep G a w
/-- .. and the document's at R (S2) -/
def Two (a w : World) (T R : Nat) (S S2 : St) (G : Nat → Prop) : Prop :=
  ∃ FT FR, RT w T S FT ∧ RR w R S2 FR ∧ (∀ b, FT b → ¬ FR b) ∧ (∀ b, FT b → b < w.heap.size ∧ (G b ∨ a.heap.size ≤ b)) ∧ (∀ b, FR b → b < w.heap.size) ∧ (G R ∨ a.heap.size ≤ R) ∧ Keep G a w
section
variable {a w w' : World} {T R : Nat} {S S2 S' : St} {G : Nat → Prop} {f : FuncId} {args : Array Value} {Q : Ending → World → Prop}
theorem One.keep (h : One a w T S G) : Keep G a w := by obtain ⟨_, _, _, h⟩ := h; exact h
theorem Two.keep (h : Two a w T R S S2 G) : Keep G a w := by obtain ⟨_, _, _, _, _, _, _, _, h⟩ := h; exact h
theorem RT.keep0 {F : Nat → Prop} (h : RT w T S F) (hk : Keep (fun _ => False) w w') : RT w' T S F := by
  obtain ⟨pb, sb, h⟩ := h; exact ⟨pb, sb, h.keep0 hk⟩
theorem RT.keep {F H : Nat → Prop} (h : RT w T S F) (hk : Keep H w w') (hd : ∀ b, F b → ¬ H b) : RT w' T S F := by
  obtain ⟨pb, sb, h⟩ := h; exact ⟨pb, sb, h.keep hk hd⟩
theorem RR.keep0 {F : Nat → Prop} (h : RR w R S F) (hk : Keep (fun _ => False) w w') : RR w' R S F := by
  obtain ⟨v, h⟩ := h; exact ⟨v, h.keep0 hk⟩
theorem RR.keep {F H : Nat → Prop} (h : RR w R S F) (hk : Keep H w w') (hd : ∀ b, F b → ¬ H b) : RR w' R S F := by
  obtain ⟨v, h⟩ := h; exact ⟨v, h.keep hk hd⟩
theorem One.keep0 (h : One a w T S G) (hk : Keep (fun _ => False) w w') : One a w' T S G := by
  obtain ⟨F, h1, h2, h3⟩ := h
  exact ⟨F, h1.keep0 hk, fun b hb => ⟨Nat.lt_of_lt_of_le (h2 b hb).1 hk.size, (h2 b hb).2⟩, h3.trans (hk.mono fun _ => False.elim)⟩
theorem RR.foot {F : Nat → Prop} (h : RR w R S F) : F R := by obtain ⟨v, h⟩ := h; exact h.footR
theorem Two.keep0 (h : Two a w T R S S2 G) (hk : Keep (fun _ => False) w w') : Two a w' T R S S2 G := by
  obtain ⟨FT, FR, h1, h2, h3, h4, h5, hR, h6⟩ := h
  exact ⟨FT, FR, h1.keep0 hk, h2.keep0 hk, h3, fun b hb => ⟨Nat.lt_of_lt_of_le (h4 b hb).1 hk.size, (h4 b hb).2⟩, fun b hb => Nat.lt_of_lt_of_le (h5 b hb) hk.size, hR, h6.trans (hk.mono fun _ => False.elim)⟩
theorem One.step (h : One a w T S G) (c : ∀ F pb sb, RepT w T S pb sb F → (∀ b, F b → b < w.heap.size) → Calls Try.prog f args w fun e w' => Q e w' ∧ RT w' T S' (ext F w w') ∧ Keep F w w') :
    Calls Try.prog f args w fun e w' => Q e w' ∧ One a w' T S' G := by
  obtain ⟨F, ⟨pb, sb, h1⟩, h2, h3⟩ := h
  refine (c F pb sb h1 (fun b hb => (h2 b hb).1)).mono ?_
  rintro e w' ⟨hq, hr, hk⟩
  have hs := h3.size
  refine ⟨hq, _, hr, fun b hb => ?_, h3.thenF hk fun x hx => (h2 x hx).2⟩
  rcases hb with hb | hb
  · exact ⟨Nat.lt_of_lt_of_le (h2 b hb).1 hk.size, (h2 b hb).2⟩
  · exact ⟨hb.2, .inr (by omega)⟩
theorem Two.stepT (h : Two a w T R S S2 G) (c : ∀ F pb sb, RepT w T S pb sb F → (∀ b, F b → b < w.heap.size) → Calls Try.prog f args w fun e w' => Q e w' ∧ RT w' T S' (ext F w w') ∧ Keep F w w') :
    Calls Try.prog f args w fun e w' => Q e w' ∧ Two a w' T R S' S2 G := by
  obtain ⟨FT, FR, ⟨pb, sb, h1⟩, h2, h3, h4, h5, hR, h6⟩ := h
  refine (c FT pb sb h1 (fun b hb => (h4 b hb).1)).mono ?_
  rintro e w' ⟨hq, hr, hk⟩
  have hs := h6.size
  refine ⟨hq, _, FR, hr, h2.keep hk (fun b hb hc => h3 b hc hb), fun b hb hc => ?_, fun b hb => ?_, fun b hb => Nat.lt_of_lt_of_le (h5 b hb) hk.size, hR, h6.thenF hk fun x hx => (h4 x hx).2⟩
  · rcases hb with hb | hb
    · exact h3 b hb hc
    · have := h5 b hc; omega
  · rcases hb with hb | hb
    · exact ⟨Nat.lt_of_lt_of_le (h4 b hb).1 hk.size, (h4 b hb).2⟩
    · exact ⟨hb.2, .inr (by omega)⟩
theorem Two.stepR (h : Two a w T R S S2 G) (c : ∀ F v, RepR w R S2 v F → (∀ b, F b → b < w.heap.size) → Calls Try.prog f args w fun e w' => Q e w' ∧ RR w' R S' (ext F w w') ∧ Keep (· = R) w w') :
    Calls Try.prog f args w fun e w' => Q e w' ∧ Two a w' T R S S' G := by
  obtain ⟨FT, FR, h1, ⟨v, h2⟩, h3, h4, h5, hR, h6⟩ := h
  refine (c FR v h2 (fun b hb => h5 b hb)).mono ?_
  rintro e w' ⟨hq, hr, hk⟩
  have hs := h6.size
  refine ⟨hq, FT, _, h1.keep hk (fun b hb hc => h3 b hb (by subst hc; exact h2.footR)), hr, fun b hb hc => ?_, fun b hb => ⟨Nat.lt_of_lt_of_le (h4 b hb).1 hk.size, (h4 b hb).2⟩, fun b hb => ?_, hR, h6.thenF hk fun x hx => by subst hx; exact hR⟩
  · rcases hc with hc | hc
    · exact h3 b hb hc
    · have := (h4 b hb).1; omega
  · rcases hb with hb | hb
    · exact Nat.lt_of_lt_of_le (h5 b hb) hk.size
    · exact hb.2
/-- what only reads -/
theorem Two.readT (h : Two a w T R S S2 G) (c : ∀ F pb sb, RepT w T S pb sb F → Calls Try.prog f args w fun e w' => Q e w' ∧ Keep (fun _ => False) w w') :
    Calls Try.prog f args w fun e w' => Q e w' ∧ Keep (fun _ => False) w w' := by
  obtain ⟨FT, FR, ⟨pb, sb, h1⟩, _⟩ := h
  exact c FT pb sb h1
theorem Two.readR (h : Two a w T R S S2 G) (c : ∀ F v, RepR w R S2 v F → Calls Try.prog f args w fun e w' => Q e w' ∧ Keep (fun _ => False) w w') :
    Calls Try.prog f args w fun e w' => Q e w' ∧ Keep (fun _ => False) w w' := by
  obtain ⟨FT, FR, _, ⟨v, h1⟩, _⟩ := h
  exact c FR v h1
theorem One.read (h : One a w T S G) (c : ∀ F pb sb, RepT w T S pb sb F → Calls Try.prog f args w fun e w' => Q e w' ∧ Keep (fun _ => False) w w') :
    Calls Try.prog f args w fun e w' => Q e w' ∧ Keep (fun _ => False) w w' := by
  obtain ⟨FT, ⟨pb, sb, h1⟩, _⟩ := h
  exact c FT pb sb h1
theorem Two.one (h : Two a w T R S S2 G) : One a w T S G := by
  obtain ⟨FT, FR, h1, h2, h3, h4, h5, hR, h6⟩ := h
  exact ⟨FT, h1, h4, h6⟩
theorem One.inv (h : One a w T S G) : S.Inv := by
  obtain ⟨F, ⟨pb, sb, h⟩, _⟩ := h; exact h.inv
/-- what a world in between has beyond a -/
def mid (a w : World) (G : Nat → Prop) (b : Nat) : Prop := (G b ∨ a.heap.size ≤ b) ∧ b < w.heap.size
theorem Two.enter (h : Two a w T R S S2 G) (hk : Keep (fun _ => False) w w') : Two w' w' T R S S2 (mid a w G) := by
  obtain ⟨FT, FR, h1, h2, h3, h4, h5, hR, h6⟩ := h
  exact ⟨FT, FR, h1.keep0 hk, h2.keep0 hk, h3, fun b hb => ⟨Nat.lt_of_lt_of_le (h4 b hb).1 hk.size, .inl ⟨(h4 b hb).2, (h4 b hb).1⟩⟩, fun b hb => Nat.lt_of_lt_of_le (h5 b hb) hk.size, .inl ⟨hR, h5 _ h2.foot⟩, Keep.refl _ _⟩
theorem Two.leave {a' w0 : World} (h : Two a' w T R S S2 (mid a w0 G)) (hk : Keep (fun _ => False) w0 a') (h0 : Keep G a w0) : Two a w T R S S2 G := by
  obtain ⟨FT, FR, h1, h2, h3, h4, h5, hR, h6⟩ := h
  have e1 := hk.size
  have e2 := h0.size
  have key : ∀ b, (mid a w0 G b ∨ a'.heap.size ≤ b) → G b ∨ a.heap.size ≤ b := fun b hb => by
    rcases hb with hb | hb
    · exact hb.1
    · exact .inr (by omega)
  exact ⟨FT, FR, h1, h2, h3, fun b hb => ⟨(h4 b hb).1, key b (h4 b hb).2⟩, h5, key R hR,
    (h0.trans (hk.mono fun _ => False.elim)).thenF h6 fun x hx => hx.1⟩
end
/-- a deed -/
structure Deed where
  op : Int
  p : Int
  q : Int
  k : Int
  o : Op3
def dcells (d : Deed) : List Value := [.int .i64 d.op, .int .i64 d.p, .int .i64 d.q, .int .i64 d.k, .int .u8 d.o.kind, .int .i64 d.o.ref, .int .i64 d.o.pos]
def doS (S : St) (d : Deed) : St :=
  if d.op = 0 then beginS S d.p else if d.op = 1 then endS S d.p else if d.op = 2 then forkS S d.p d.q else if d.op = 3 then openS S d.p d.o else if d.op = 4 then dupS S d.p d.k
  else if d.op = 5 then closeS S d.p d.k else if d.op = 6 then moveS S d.p d.k d.q else S
theorem all_do (S : St) (d : Deed) : (doS S d).all.length ≤ S.all.length + 1 := by
  have h1 : (beginS S d.p).all = S.all := by unfold beginS; split <;> rfl
  have h2 : (endS S d.p).all = S.all := by unfold endS; split; rfl; exact shut_all S _ 8
  have h3 : (forkS S d.p d.q).all = S.all := by unfold forkS; split <;> rfl
  have h4 : (openS S d.p d.o).all.length ≤ S.all.length + 1 := by unfold openS; split; simp [St.push, St.give]; omega
  have h5 : (dupS S d.p d.k).all = S.all := by unfold dupS; split <;> rfl
  have h6 : (closeS S d.p d.k).all = S.all := by unfold closeS; split <;> rfl
  have h7 : (moveS S d.p d.k d.q).all.length = S.all.length := by unfold moveS; split; simp [St.move]; rfl
  unfold doS
  repeat' split
  all_goals first | omega | (simp only [*]; omega)
end Go.Proofs.Ytdiginkpclbmdaa
