/- The walk of live; new disks and memories. -/
import Derived.Test.YtjlenocmfeggdaaDoB
import Derived.Test.YtjlenocmfeggdaaImpC
import Derived.Test.YtjlenocmfeggdaaRefC
import Derived.Test.YtjlenocmfeggdaaRefD
import Derived.Test.YtjlenocmfeggdaaRefN
namespace Go.Proofs.Ytjlenocmfeggdaa
open Go.RowKit
attribute [local go_sem] cell_alloc_some frozen_alloc_some
section
variable {a w w' w1 w2 : World} {D M R Q : Nat} {S S2 S' : St} {G : Nat → Prop}
theorem One.enter (h : One a w D M S G) (hk : Keep none_ w w') : One w' w' D M S (mid a w G) := by
  obtain ⟨FT, h1, h4, h6⟩ := h
  exact ⟨FT, h1.keep hk (fun _ _ => id), fun b hb => ⟨Nat.lt_of_lt_of_le (h4 b hb).1 hk.size, .inl ⟨(h4 b hb).2, (h4 b hb).1⟩⟩, Keep.refl _ _⟩
theorem One.leave {a' w0 : World} (h : One a' w D M S (mid a w0 G)) (hk : Keep none_ w0 a') (h0 : Keep G a w0) : One a w D M S G := by
  obtain ⟨FT, h1, h4, h6⟩ := h
  have e1 := hk.size
  have e2 := h0.size
  have key : ∀ b, (mid a w0 G b ∨ a'.heap.size ≤ b) → G b ∨ a.heap.size ≤ b := fun b hb => by
    rcases hb with hb | hb
    · exact hb.1
    · exact .inr (by omega)
  exact ⟨FT, h1, fun b hb => ⟨(h4 b hb).1, key b (h4 b hb).2⟩, (h0.trans (hk.mono fun _ => False.elim)).thenF h6 fun x hx => hx.1⟩
theorem One.ask (h : One a w D M S G) (hl : S.last ≤ 1000) (r : Req) : Calls Try.prog 16 #[.pointer (some ⟨D, 0, none⟩), .agg (reqc r).toArray] w fun e w' => e = .returned (.tuple #[.int .u32 (askN S r), .int .i64 (askE S r)]) ∧ One a w' D M (askS S r) G :=
  h.step fun F v sb fb T h1 hF => by
    by_cases he : askE S r = 0
    · have e1 : askN S r = (S.last : Int) + 1 := by unfold askN; rw [if_pos he]
      rw [e1, he]
      exact ask_ok h1 hl r he
    · have e1 : askN S r = 0 := by unfold askN; rw [if_neg he]
      have e2 : askS S r = S := by unfold askS; rw [if_neg he]
      rw [e1, e2]
      refine (ask_err h1 r he).mono ?_
      rintro e w' ⟨rfl, hk⟩
      exact ⟨rfl, ⟨v, sb, fb, T, (h1.keep0 hk).more fun b hb => .inl hb⟩, hk.mono fun _ hx => hx.elim⟩
theorem One.deliver (h : One a w D M S G) (i : Int) : Calls Try.prog 17 #[.pointer (some ⟨D, 0, none⟩), .int .i64 i, .pointer (some ⟨M, 0, none⟩)] w fun e w' => e = .returned (.tuple #[.agg (reqc (delR S i)).toArray, .int .i64 (delE S i)]) ∧ One a w' D M (delS S i) G :=
  h.step fun F v sb fb T h1 hF => by
    refine (deliver_any h1 hF i).mono ?_
    rintro e w' ⟨rfl, ⟨v', hr⟩, hk⟩
    exact ⟨rfl, ⟨v', sb, fb, T, hr.more fun b hb => .inl hb⟩, hk⟩
theorem One.poke (h : One a w D M S G) (i off : Int) (c : UInt8) : Calls Try.prog 12 #[.pointer (some ⟨M, 0, none⟩), .int .i64 i, .int .i64 off, byv c] w fun e w' => e = .returned (.int .i64 (pokeE S i off)) ∧ One a w' D M (pokeS S i off c) G :=
  h.step fun F v sb fb T h1 hF => by
    refine (setbyte_any h1 i off c).mono ?_
    rintro e w' ⟨rfl, hr, hk⟩
    exact ⟨rfl, ⟨v, sb, fb, T, hr.more fun b hb => .inl hb⟩, hk.mono fun x hx => by subst hx; exact h1.footF⟩
/-- a disk and a memory that are new since a -/
def Fresh1 (a w : World) (n m D M : Nat) : Prop := ∃ F, RT w D M (St.init n m) F ∧ (∀ b, F b → a.heap.size ≤ b ∧ b < w.heap.size) ∧ Keep none_ a w
theorem Fresh1.one {n m : Nat} (h : Fresh1 a w n m D M) : One a w D M (St.init n m) none_ := by
  obtain ⟨F, h1, h2, h3⟩ := h
  exact ⟨F, h1, fun b hb => ⟨(h2 b hb).2, .inr (h2 b hb).1⟩, h3⟩
/-- newdisk, then newmem -/
theorem fresh1 (a w : World) (hk : Keep none_ a w) (n m : Nat) (n0 : 0 < n) (n1 : n ≤ 64) (m0 : 0 < m) (m1 : m ≤ 64) :
    Calls Try.prog 20 #[.int .i64 n] w fun e w1 => ∃ D, e = .returned (.pointer (some ⟨D, 0, none⟩)) ∧ Keep none_ a w1 ∧ Calls Try.prog 21 #[.int .i64 m] w1 fun e w2 => ∃ M, e = .returned (.pointer (some ⟨M, 0, none⟩)) ∧ Fresh1 a w2 n m D M := by
  refine (newdisk_ok w n n0 n1).mono ?_
  rintro e w1 ⟨rfl, hb1, hb2, hk1, hs1⟩
  refine ⟨_, rfl, hk.trans hk1, ?_⟩
  refine (newmem_ok w1 m m0 m1).mono ?_
  rintro e w2 ⟨rfl, hb3, hb4, hk2, hs2⟩
  have hs := hk.size
  refine ⟨_, rfl, fun b => w.heap.size ≤ b ∧ b < w2.heap.size, ⟨.slice none 0 0, w.heap.size, w1.heap.size, ⟨n, m, [], []⟩, ?_⟩, fun b hb => ⟨by omega, hb.2⟩, (hk.trans hk1).trans hk2⟩
  refine ⟨.init n0 n1 m0 m1, hb1.keep hk2 id, own_nil _ _ _ _, ?_, hb3, ?_, ?_, fun g hg => (by cases hg), ?_, ?_, ?_⟩
  · have := hb2.keep hk2 id
    unfold gridT; rw [List.append_nil]; exact this
  · unfold gridT; rw [List.append_nil]; exact hb4
  all_goals exact ⟨by omega, by omega⟩
end
def r21 : Req := ⟨0, true, 2, 1, 0⟩
def L1 : St := pokeS (St.init 4 2) 1 3 9
def L2 : St := askS L1 r21
def L3 : St := delS L2 0
theorem live_plain : pokeE (St.init 4 2) 1 3 = 0 ∧ askN L1 r21 = 1 ∧ askE L1 r21 = 0 ∧ L1.last = 0 ∧ reqc (delR L2 0) = [.int .u32 1, .bool true, .int .i64 2, .int .i64 1, .int .u8 0] ∧ delE L2 0 = 0 ∧ L3.ns = 4 ∧ L3.sec 2 3 = 9 := by
  refine ⟨?_, ?_, ?_, ?_, ?_, ?_, ?_, ?_⟩ <;> kernel_rfl
set_option maxRecDepth 100000 in
set_option maxHeartbeats 1000000 in
theorem live_any (w : World) : Calls Try.prog 11 #[] w fun e w' => e = .returned (.bool true) ∧ Keep none_ w w' := by
  obtain ⟨p1, p2, p3, p4, p5, p6, p7, p8⟩ := live_plain
  have H0 := Lib.hid (fresh1 w w (Keep.refl none_ w) 4 2 (by decide) (by decide) (by decide) (by decide))
  have HP1 := Lib.hid p1
  have HP2 := Lib.hid p2
  have HP3 := Lib.hid p3
  have HP4 := Lib.hid p4
  have HP5 := Lib.hid p5
  have HP6 := Lib.hid p6
  have HP7 := Lib.hid p7
  have HP8 := Lib.hid p8
  clear p1 p2 p3 p4 p5 p6 p7 p8
  go_enter Try.func11, Try.ntmps11
  go_wp2_with fail
  refine H0.out.mono ?_
  rintro e w1 ⟨D, rfl, hk1, h1⟩
  replace h1 := Lib.hid h1
  go_wp2_with fail
  refine h1.out.mono ?_
  rintro e w2 ⟨M, rfl, h2⟩
  have h4 := h2.one.poke 1 3 9
  rw [HP1.out] at h4
  replace h4 := Lib.hid h4
  clear h2
  go_wp2_with fail
  refine Calls.mono (by exact h4.out) ?_
  rintro e w3 ⟨rfl, h5⟩
  have h6 := One.ask (S := L1) h5 (by rw [HP4.out]; decide) r21
  rw [HP2.out, HP3.out] at h6
  replace h6 := Lib.hid h6
  clear h5
  unfold reqc r21 at h6
  go_wp2_with fail
  refine h6.out.mono ?_
  rintro e w4 ⟨rfl, h7⟩
  have h8 := One.deliver (S := L2) h7 0
  rw [HP5.out, HP6.out] at h8
  replace h8 := Lib.hid h8
  clear h7
  go_wp2_with fail
  refine h8.out.mono ?_
  rintro e w5 ⟨rfl, h9⟩
  have H9 := Lib.hid h9
  have hn := h9.keep0 ((Keep.refl _ w5).alloc (.cells (#[.int .u32 1, .bool true, .int .i64 2, .int .i64 1, .int .u8 0]) 44))
  have h10 := One.read (S := L3) (f := 18) (args := #[.pointer (some ⟨D, 0, none⟩), .int .i64 2]) hn (P := fun e w' => ∃ u, e = .returned (.tuple #[u, .int .i64 0]) ∧ Slc w' 1 u 32 ((bytes32 (L3.sec 2)).map byv)) (fun F v sb fb T h => by
    refine (sector_ok h 2 (by rw [HP7.out]; decide)).mono ?_
    rintro e w' ⟨u, rfl, ho, hb⟩
    exact ⟨⟨u, rfl, Slc.of_own ho⟩, hb⟩)
  replace h10 := Lib.hid h10
  have HBX := Lib.hid (Blk.new w5 44 [.int .u32 1, .bool true, .int .i64 2, .int .i64 1, .int .u8 0])
  clear h9
  go_wp2_with fail
  refine h10.out.mono ?_
  rintro e w6 ⟨⟨u, rfl, A, cap, rfl, hc1, hc2, hh⟩, hk6⟩
  have HF := Lib.hid (hn.keep0 hk6).keep
  have hbx := HBX.out.keep hk6 id
  have b2 := hbx.cell_of (i := 0) rfl
  rcases hh with ⟨_, h0, _⟩ | ⟨ad, rfl, _, hcell⟩
  · cases h0
  have c3 := hcell 3 (byv 9) (by rw [List.getElem?_map, bytes32_get (by decide), HP8.out]; rfl)
  clear hbx hk6 hcell hn
  unfold byv at c3
  have c4 : w6.cell? ⟨ad.block, ad.off + 3, none⟩ = some (.int .u8 9) := by
    have e : ad.add 3 = ⟨ad.block, ad.off + 3, none⟩ := by simp [Addr.add]
    rw [← e]; exact c3
  clear c3
  have i3 : (3 : Int) < 32 := by decide
  go_wp2
  go_ret
  exact ⟨rfl, HF.out⟩
end Go.Proofs.Ytjlenocmfeggdaa
