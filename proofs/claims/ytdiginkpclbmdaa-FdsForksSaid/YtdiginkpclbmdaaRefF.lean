/- The walk of the document's Fork. -/
import Derived.Test.YtdiginkpclbmdaaRefE
import Derived.Test.YtdiginkpclbmdaaImpJ
namespace Go.Proofs.Ytdiginkpclbmdaa
open Go.RowKit
attribute [local go_sem] cell_alloc_some frozen_alloc_some
section
variable {w w' : World} {R : Nat} {S : St} {v : Value} {F : Nat → Prop}
/-- the world behind a Fork -/
def forkW (w : World) (R p q : Nat) (S : St) : World := (((((((((w.setCell ⟨R, q, none⟩ (.bool true)).setCell ⟨R, 6 + q * 8, none⟩ (.int .i64 (S.fd p 0 : Nat))).setCell ⟨R, 6 + q * 8 + 1, none⟩ (.int .i64 (S.fd p 1 : Nat))).setCell ⟨R, 6 + q * 8 + 2, none⟩ (.int .i64 (S.fd p 2 : Nat))).setCell ⟨R, 6 + q * 8 + 3, none⟩ (.int .i64 (S.fd p 3 : Nat))).setCell ⟨R, 6 + q * 8 + 4, none⟩ (.int .i64 (S.fd p 4 : Nat))).setCell ⟨R, 6 + q * 8 + 5, none⟩ (.int .i64 (S.fd p 5 : Nat))).setCell ⟨R, 6 + q * 8 + 6, none⟩ (.int .i64 (S.fd p 6 : Nat))).setCell ⟨R, 6 + q * 8 + 7, none⟩ (.int .i64 (S.fd p 7 : Nat)))
theorem forkW_keep {G : Nat → Prop} (hG : G R) (w : World) (p q : Nat) (S : St) : Keep G w (forkW w R p q S) := (Keep.setCell (S := G) (Keep.setCell (S := G) (Keep.setCell (S := G) (Keep.setCell (S := G) (Keep.setCell (S := G) (Keep.setCell (S := G) (Keep.setCell (S := G) (Keep.setCell (S := G) (Keep.setCell (S := G) (Keep.refl G w) (.inl hG) _) (.inl hG) _) (.inl hG) _) (.inl hG) _) (.inl hG) _) (.inl hG) _) (.inl hG) _) (.inl hG) _) (.inl hG) _)
theorem rcell_set (S : St) (v : Value) {p k n : Nat} (hp : p < 6) (hk : k < 8) : (row 55 (rcell S v)).set (6 + p * 8 + k) (.int .i64 n) = row 55 (rcell { S with fd := setFd S.fd p k n } v) := by
  rw [row_set]
  refine row_congr fun j hj => ?_
  unfold rcell
  show _ = (if j < 6 then Value.bool (S.has j) else if j < 54 then .int .i64 (setFd S.fd p k n ((j - 6) / 8) ((j - 6) % 8) : Nat) else v)
  unfold setFd
  by_cases ej : j = 6 + p * 8 + k
  · rw [if_pos ej, if_neg (by omega), if_pos (by omega), if_pos (by omega)]
  · rw [if_neg ej]
    by_cases h1 : j < 6
    · rw [if_pos h1, if_pos h1]
    · rw [if_neg h1, if_neg h1]
      by_cases h2 : j < 54
      · rw [if_pos h2, if_pos h2, if_neg (by omega)]
      · rw [if_neg h2, if_neg h2]
/-- k descriptors are copied -/
def partS (S : St) (p q k : Nat) : St := { S with has := fun x => if x = q then true else S.has x, fd := part S.fd p q k }
theorem rcell_part (S : St) (v : Value) (p q k : Nat) (hq : q < 6) (hk : k < 8) : (row 55 (rcell (partS S p q k) v)).set (6 + q * 8 + k) (.int .i64 (S.fd p k : Nat)) = row 55 (rcell (partS S p q (k + 1)) v) := by
  rw [rcell_set _ _ hq hk]
  unfold partS
  simp only [part_succ]
theorem rcell_begin (S : St) (v : Value) (p q : Nat) (hq : q < 6) : (row 55 (rcell S v)).set q (.bool true) = row 55 (rcell (partS S p q 0) v) := by
  rw [row_set]
  refine row_congr fun j hj => ?_
  unfold rcell partS
  simp only [part_zero]
  by_cases ej : j = q
  · rw [if_pos ej, if_pos (by omega), if_pos ej]
  · rw [if_neg ej, if_neg ej]
theorem rcell_forked (S : St) (v : Value) (p q : Nat) : row 55 (rcell (partS S p q 8) v) = row 55 (rcell (S.fork p q) v) := by
  refine row_congr fun j hj => ?_
  unfold rcell partS St.fork part
  have h8 : (j - 6) % 8 < 8 := by omega
  simp only [h8, and_true]
theorem forkW_blk (h : RepR w R S v F) (p q : Nat) (hq : q < 6) : Blk (forkW w R p q S) R 84 (row 55 (rcell (S.fork p q) v)) := by
  have := ((((((((((h.tab.set_ q (.bool true)).set_ (6 + q * 8 + 0) (.int .i64 (S.fd p 0 : Nat))).set_ (6 + q * 8 + 1) (.int .i64 (S.fd p 1 : Nat))).set_ (6 + q * 8 + 2) (.int .i64 (S.fd p 2 : Nat))).set_ (6 + q * 8 + 3) (.int .i64 (S.fd p 3 : Nat))).set_ (6 + q * 8 + 4) (.int .i64 (S.fd p 4 : Nat))).set_ (6 + q * 8 + 5) (.int .i64 (S.fd p 5 : Nat))).set_ (6 + q * 8 + 6) (.int .i64 (S.fd p 6 : Nat))).set_ (6 + q * 8 + 7) (.int .i64 (S.fd p 7 : Nat))))
  rw [rcell_begin S v p q hq] at this
  rw [rcell_part S v p q 0 hq (by decide)] at this
  rw [rcell_part S v p q 1 hq (by decide)] at this
  rw [rcell_part S v p q 2 hq (by decide)] at this
  rw [rcell_part S v p q 3 hq (by decide)] at this
  rw [rcell_part S v p q 4 hq (by decide)] at this
  rw [rcell_part S v p q 5 hq (by decide)] at this
  rw [rcell_part S v p q 6 hq (by decide)] at this
  rw [rcell_part S v p q 7 hq (by decide)] at this
  rw [rcell_forked] at this
  exact this
theorem RepR.forked (h : RepR w R S v F) {p q : Nat} (hp : p < 6) (hq : q < 6) : RepR (forkW w R p q S) R (S.fork p q) v F :=
  ⟨h.inv.fork hp, forkW_blk h p q hq, ownsRow_keep' h.all (forkW_keep (G := (· = R)) rfl w p q S) (fun g hg e => own_ne h.all h.tab (by decide) (by rw [hg, e])), h.footR, h.footA⟩
set_option maxHeartbeats 1000000 in
theorem rfork_ok (h : RepR w R S v F) (p q : Nat) (hp : p < 6) (hq : q < 6) (hh : S.has p = true) (hhq : S.has q = false) :
    Calls Try.prog 42 #[.pointer (some ⟨R, 0, none⟩), .int .i64 p, .int .i64 q] w fun e w' => e = .returned (.int .i64 0) ∧ RepR w' R (S.fork p q) v F ∧ Keep (· = R) w w' := by
  have H1 := rmay_any h p
  have hm : mayE S p = 0 := by unfold mayE; rw [if_neg (by rintro (h | h | h); omega; omega; simp [hh] at h)]
  rw [hm] at H1
  replace H1 := Lib.hid H1
  have hfr : freshE S q = 0 := by unfold freshE; rw [if_neg (by omega), if_neg (by simp [hhq])]
  have H2 := rfresh_any h q
  rw [hfr] at H2
  replace H2 := Lib.hid H2
  have c0 := h.cellF hp (k := 0) (by decide)
  have c1 := h.cellF hp (k := 1) (by decide)
  have c2 := h.cellF hp (k := 2) (by decide)
  have c3 := h.cellF hp (k := 3) (by decide)
  have c4 := h.cellF hp (k := 4) (by decide)
  have c5 := h.cellF hp (k := 5) (by decide)
  have c6 := h.cellF hp (k := 6) (by decide)
  have c7 := h.cellF hp (k := 7) (by decide)
  have d0 := h.cellF hq (k := 0) (by decide)
  have d1 := h.cellF hq (k := 1) (by decide)
  have d2 := h.cellF hq (k := 2) (by decide)
  have d3 := h.cellF hq (k := 3) (by decide)
  have d4 := h.cellF hq (k := 4) (by decide)
  have d5 := h.cellF hq (k := 5) (by decide)
  have d6 := h.cellF hq (k := 6) (by decide)
  have d7 := h.cellF hq (k := 7) (by decide)
  have dq := h.cellH hq
  have hz := fun i => h.tab.frozen i
  have hpq : p ≠ q := by rintro rfl; rw [hh] at hhq; cases hhq
  have i1 : (p : Int) < 6 := by omega
  have i2 : (q : Int) < 6 := by omega
  have i3 : (0 : Int) ≤ (p : Int) := by omega
  have i4 : (0 : Int) ≤ (q : Int) := by omega
  have HH := Lib.hid h
  have HHQ := Lib.hid hhq
  have HHH := Lib.hid hh
  simp only [Nat.add_zero] at c0 d0
  clear h hm hfr hh hhq
  go_enter Try.func42, Try.ntmps42
  go_wp2_with fail
  refine H1.out.mono ?_
  rintro e w' ⟨rfl, rfl⟩
  go_wp2_with fail
  refine H2.out.mono ?_
  rintro e w' ⟨rfl, rfl⟩
  go_wp2
  go_region
  have HD := Lib.hid ((HH.out.forked hp hq).keep0 ((Keep.refl _ _).drew))
  have HK := Lib.hid ((forkW_keep (G := (· = R)) rfl w p q S).drew)
  all_goals go_wp2
  all_goals go_ret
  all_goals exact ⟨rfl, HD.out, HK.out⟩
set_option maxHeartbeats 1000000 in
theorem rfork_any (h : RepR w R S v F) (p q : Int) :
    Calls Try.prog 42 #[.pointer (some ⟨R, 0, none⟩), .int .i64 p, .int .i64 q] w fun e w' => e = .returned (.int .i64 (forkE S p q)) ∧ RepR w' R (forkS S p q) v F ∧ Keep (· = R) w w' := by
  have H1 := rmay_any h p
  rcases mayE_cases S p with ⟨hm, _⟩ | ⟨hm, p, rfl, hp, hh⟩
  · have hE : forkE S p q = 5 := by unfold forkE; rw [if_pos hm]
    have hS : forkS S p q = S := by unfold forkS; rw [hE]; rfl
    rw [hE, hS]
    rw [hm] at H1
    replace H1 := Lib.hid H1
    have HH := Lib.hid h
    clear h hm hE hS
    go_enter Try.func42, Try.ntmps42
    go_wp2_with fail
    refine H1.out.mono ?_
    rintro e w' ⟨rfl, rfl⟩
    go_wp2
    go_ret
    exact ⟨rfl, HH.out, Keep.refl _ _⟩
  · have hE : forkE S p q = freshE S q := by unfold forkE; rw [if_neg (by rw [hm]; decide)]
    by_cases hf : freshE S q = 0
    · obtain ⟨q, rfl, hq, hhq⟩ : ∃ q' : Nat, q = q' ∧ q' < 6 ∧ S.has q' = false := by
        rcases freshE_cases S q with ⟨he, _⟩ | ⟨_, _, _, _, he⟩ | ⟨q', h1, h2, h3, _⟩
        · rw [hf] at he; cases he
        · rw [hf] at he; cases he
        · exact ⟨q', h1, h2, h3⟩
      have hS : forkS S p q = S.fork p q := by unfold forkS; rw [hE, hf]; rfl
      rw [hE, hS, hf]
      exact rfork_ok h p q hp hq hh hhq
    · have hS : forkS S p q = S := by unfold forkS; rw [hE, if_neg hf]
      rw [hE, hS]
      rw [hm] at H1
      replace H1 := Lib.hid H1
      have H2 := Lib.hid (rfresh_any h q)
      have hne : (freshE S q == 0) = false := by simpa using hf
      have HH := Lib.hid h
      clear h hm hE hS hh hf
      generalize freshE S q = er at *
      go_enter Try.func42, Try.ntmps42
      go_wp2_with fail
      refine H1.out.mono ?_
      rintro e w' ⟨rfl, rfl⟩
      go_wp2_with fail
      refine H2.out.mono ?_
      rintro e w' ⟨rfl, rfl⟩
      go_wp2
      go_ret
      exact ⟨rfl, HH.out, Keep.refl _ _⟩
end
end Go.Proofs.Ytdiginkpclbmdaa
