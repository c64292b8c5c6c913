/- The walks of Get, Move, Same. -/
import Derived.Test.YtdiginkpclbmdaaImpC
import Derived.LaidEqlPtr
namespace Go.Proofs.Ytdiginkpclbmdaa
open Go.RowKit
attribute [local go_sem] cell_alloc_some frozen_alloc_some
def opv (o : Op3) : Value := .agg #[.int .u8 o.kind, .int .i64 o.ref, .int .i64 o.pos]
def zero3 : Op3 := ⟨0, 0, 0⟩
def getE (S : St) (p k : Int) : Op3 := if atE S p k = 0 then S.what (S.fd p.toNat k.toNat) else zero3
section
variable {w : World} {T : Nat} {S : St} {pb sb : Nat → Nat} {F : Nat → Prop}
theorem at_ok_cases (S : St) (p k : Int) (h : atE S p k = 0) : ∃ q j : Nat, p = q ∧ k = j ∧ q < 6 ∧ j < 8 ∧ S.has q = true ∧ S.fd q j ≠ 0 := by
  rcases atE_cases S p k with ⟨he, _⟩ | ⟨q, rfl, hq, hh, hm, ⟨he, _⟩ | ⟨_, j, rfl, hj, hf⟩⟩
  · rw [h] at he; cases he
  · rw [h] at he; cases he
  · exact ⟨q, j, rfl, rfl, hq, hj, hh, hf⟩
set_option maxHeartbeats 400000 in
theorem get_any (h : RepT w T S pb sb F) (p k : Int) :
    Calls Try.prog 18 #[.pointer (some ⟨T, 0, none⟩), .int .i64 p, .int .i64 k] w fun e w' => e = .returned (.tuple #[opv (getE S p k), .int .i64 (atE S p k)]) ∧ Keep (fun _ => False) w w' := by
  have h1 := h.keep0 ((Keep.refl _ w).alloc (.cells #[.int .u8 0, .int .i64 0, .int .i64 0] 30))
  by_cases he : atE S p k = 0
  · obtain ⟨q, j, rfl, rfl, hq, hj, hh, hf⟩ := at_ok_cases S p k he
    have hl := live_of hq hj hf
    have hs := h1.shr _ hl
    have c0 := hs.cell_of (i := 0) rfl
    have c1 := hs.cell_of (i := 1) rfl
    have c2 := hs.cell_of (i := 2) rfl
    have hg : getE S q j = S.what (S.fd q j) := by unfold getE; rw [if_pos he]; rfl
    rw [hg, he]
    have H1 := Lib.hid (at_ok h1 q j hq hj hh hf)
    clear h h1 hs hl hh hf he hg
    go_enter Try.func18, Try.ntmps18
    go_wp2_with fail
    refine H1.out.mono ?_
    rintro e w' ⟨rfl, n, rfl⟩
    go_wp2
    exact bodyPost_ret (v := .tuple #[opv (S.what (S.fd q j)), .int .i64 0]) (by simp [results, Try.results18, go_sem, opv]) rfl ⟨rfl, by repeat (first | exact Keep.refl _ _ | apply Keep.alloc | apply Keep.drewN | apply Keep.drew | (refine Keep.setCell ?_ (.inr (by simp)) _))⟩
  · have hg : getE S p k = zero3 := by unfold getE; rw [if_neg he]
    rw [hg]
    have H1 := Lib.hid (at_err h1 p k he)
    have hne : (atE S p k == 0) = false := by simpa using he
    clear h h1 hg
    generalize atE S p k = er at *
    go_enter Try.func18, Try.ntmps18
    go_wp2_with fail
    refine H1.out.mono ?_
    rintro e w' ⟨rfl, rfl⟩
    go_wp2
    exact bodyPost_ret (v := .tuple #[opv zero3, .int .i64 er]) (by simp [results, Try.results18, go_sem, opv, zero3]) rfl ⟨rfl, by repeat (first | exact Keep.refl _ _ | apply Keep.alloc | apply Keep.drewN | apply Keep.drew | (refine Keep.setCell ?_ (.inr (by simp)) _))⟩
def moveS (S : St) (p k pos : Int) : St := if atE S p k = 0 then S.move p.toNat k.toNat pos else S
theorem RepT.moved (h : RepT w T S pb sb F) {p k : Nat} (hp : p < 6) (hk : k < 8) (hf : S.fd p k ≠ 0) (pos : Int) :
    RepT (w.setCell ⟨sb (S.fd p k), 2, none⟩ (.int .i64 pos)) T (S.move p k pos) pb sb F := by
  have hl := live_of hp hk hf
  refine ⟨h.inv.move p k pos, h.tab.far (p := ⟨sb (S.fd p k), 2, none⟩) (tab_ne_sh h hl) _, fun q hq hqh => (h.proc q hq hqh).far (p := ⟨sb (S.fd p k), 2, none⟩) (Ne.symm (sh_ne h hq hqh hl)) _, fun m hm => ?_, h.inj, h.sinj, h.footT, h.footP, h.footS⟩
  have hml : Live S m := hm
  by_cases e : m = S.fd p k
  · subst e
    have := (h.shr _ hl).set_ 2 (.int .i64 pos)
    have hw : (S.move p k pos).what (S.fd p k) = { S.what (S.fd p k) with pos := pos } := by
      have := h.inv.le p k hp hk
      unfold St.what St.move
      simp only [List.getD_eq_getElem?_getD, List.getElem?_set]
      rw [if_pos trivial, if_pos (by omega)]
      rfl
    rw [hw]
    exact this
  · have hw : (S.move p k pos).what m = S.what m := by
      have h1 := live_le h.inv hml
      have h2 := live_le h.inv hl
      unfold St.what St.move
      simp only [List.getD_eq_getElem?_getD, List.getElem?_set]
      rw [if_neg (by omega)]
    rw [hw]
    exact (h.shr m hml).far (p := ⟨sb (S.fd p k), 2, none⟩) (fun e' => e (h.sinj _ _ hml hl e')) _
set_option maxHeartbeats 400000 in
theorem move_any (h : RepT w T S pb sb F) (p k pos : Int) :
    Calls Try.prog 20 #[.pointer (some ⟨T, 0, none⟩), .int .i64 p, .int .i64 k, .int .i64 pos] w fun e w' => e = .returned (.int .i64 (atE S p k)) ∧ RepT w' T (moveS S p k pos) pb sb F ∧ Keep F w w' := by
  by_cases he : atE S p k = 0
  · obtain ⟨q, j, rfl, rfl, hq, hj, hh, hf⟩ := at_ok_cases S p k he
    have hl := live_of hq hj hf
    have hs := h.shr _ hl
    have c2 := hs.cell_of (i := 2) rfl
    have z2 := hs.frozen 2
    have hg : moveS S q j pos = S.move q j pos := by unfold moveS; rw [if_pos he]; rfl
    rw [hg, he]
    have H1 := Lib.hid (at_ok h q j hq hj hh hf)
    have HM : ∀ n, Hid (RepT ((w.drewN n).setCell ⟨sb (S.fd q j), 2, none⟩ (.int .i64 pos)) T (S.move q j pos) pb sb F) := fun n => (h.keep0 (Keep.ofDrew n w)).moved hq hj hf pos
    have HF := Lib.hid (h.footS _ hl)
    clear h hs hl hh hf he hg
    go_enter Try.func20, Try.ntmps20
    go_wp2_with fail
    refine H1.out.mono ?_
    rintro e w' ⟨rfl, n, rfl⟩
    have HM1 := HM n; clear HM
    go_wp2
    go_ret
    exact ⟨rfl, HM1.out, ((Keep.refl F w).drewN n).setCell (.inl HF.out) _⟩
  · have hg : moveS S p k pos = S := by unfold moveS; rw [if_neg he]
    rw [hg]
    have H1 := Lib.hid (at_err h p k he)
    have hne : (atE S p k == 0) = false := by simpa using he
    have HH := Lib.hid h
    clear h hg
    generalize atE S p k = er at *
    go_enter Try.func20, Try.ntmps20
    go_wp2_with fail
    refine H1.out.mono ?_
    rintro e w' ⟨rfl, rfl⟩
    go_wp2
    go_ret
    exact ⟨rfl, HH.out, Keep.refl _ _⟩
def sameE (S : St) (p a q b : Int) : Bool := decide (atE S p a = 0) && decide (atE S q b = 0) && (S.fd p.toNat a.toNat == S.fd q.toNat b.toNat)
theorem info72 : (Try.prog.info? 72).map (fun i => decide (i.size ≠ 0)) = some true := by kernel_rfl
set_option maxHeartbeats 400000 in
theorem same_any (h : RepT w T S pb sb F) (p a q b : Int) :
    Calls Try.prog 19 #[.pointer (some ⟨T, 0, none⟩), .int .i64 p, .int .i64 a, .int .i64 q, .int .i64 b] w fun e w' => e = .returned (.bool (sameE S p a q b)) ∧ Keep (fun _ => False) w w' := by
  by_cases he : atE S p a = 0
  · obtain ⟨p, a, rfl, rfl, hp, ha, hh, hf⟩ := at_ok_cases S p a he
    have H1 := Lib.hid (at_ok h p a hp ha hh hf)
    have hrn : ∀ n, RepT (w.drewN n) T S pb sb F := fun n => h.keep0 (Keep.ofDrew n w)
    by_cases he2 : atE S q b = 0
    · obtain ⟨q, b, rfl, rfl, hq, hb, hh2, hf2⟩ := at_ok_cases S q b he2
      have H2 := Lib.hid (fun n => at_ok (hrn n) q b hq hb hh2 hf2)
      have hr : sameE S p a q b = (S.fd p a == S.fd q b) := by unfold sameE; rw [he, he2]; rfl
      rw [hr]
      obtain ⟨j, hj⟩ : ∃ j, Try.prog.info? 72 = some j := by
        have := info72; cases hx : Try.prog.info? 72 with
        | none => rw [hx] at this; cases this
        | some j => exact ⟨j, rfl⟩
      have hjs : j.size ≠ 0 := by have := info72; rw [hj] at this; simpa using this
      by_cases hs : S.fd p a = S.fd q b
      · have heq : ∀ W, (binOp .eql 65 (.pointer (some ⟨sb (S.fd p a), 0, none⟩)) (.pointer (some ⟨sb (S.fd q b), 0, none⟩))).run Try.prog W = .ok (.bool true) W := fun W => by
          rw [hs]; exact run_eql_ptr_same W _ Try.underlying65 hj
        have hb2 : (S.fd p a == S.fd q b) = true := by simpa using hs
        rw [hb2]
        clear h hrn he he2 hr hs hb2 hf hf2 hjs
        go_enter Try.func19, Try.ntmps19
        go_wp2_with fail
        refine H1.out.mono ?_
        rintro e w' ⟨rfl, n, rfl⟩
        go_wp2_with fail
        refine (H2.out n).mono ?_
        rintro e w' ⟨rfl, m, rfl⟩
        go_wp2
        go_ret
        exact ⟨rfl, (Keep.refl _ w).drewN _⟩
      · have hb2 : (S.fd p a == S.fd q b) = false := by simpa using hs
        rw [hb2]
        have hsb : sb (S.fd p a) ≠ sb (S.fd q b) := fun e => hs (h.sinj _ _ (live_of hp ha hf) (live_of hq hb hf2) e)
        have k1 := h.shr _ (live_of hp ha hf)
        have k2 := h.shr _ (live_of hq hb hf2)
        have heq : ∀ n, (binOp .eql 65 (.pointer (some ⟨sb (S.fd p a), 0, none⟩)) (.pointer (some ⟨sb (S.fd q b), 0, none⟩))).run Try.prog (w.drewN n) = .ok (.bool false) (w.drewN n) := fun n =>
          run_eql_ptr_other (w.drewN n) Try.underlying65 hj hjs (by intro e; injection e with e; exact hsb e) (k1.drewN n) (k2.drewN n)
        clear h hrn he he2 hr hs hb2 hf hf2 hjs k1 k2
        go_enter Try.func19, Try.ntmps19
        go_wp2_with fail
        refine H1.out.mono ?_
        rintro e w' ⟨rfl, n, rfl⟩
        go_wp2_with fail
        refine (H2.out n).mono ?_
        rintro e w' ⟨rfl, m, rfl⟩
        go_wp2
        go_ret
        exact ⟨rfl, (Keep.refl _ w).drewN _⟩
    · have H2 := Lib.hid (fun n => at_err (hrn n) q b he2)
      have hr : sameE S p a q b = false := by unfold sameE; simp [he2]
      rw [hr]
      have hne : (atE S q b == 0) = false := by simpa using he2
      clear h hrn he hr hf
      generalize atE S q b = er at *
      go_enter Try.func19, Try.ntmps19
      go_wp2_with fail
      refine H1.out.mono ?_
      rintro e w' ⟨rfl, n, rfl⟩
      go_wp2_with fail
      refine (H2.out n).mono ?_
      rintro e w' ⟨rfl, rfl⟩
      go_wp2
      go_ret
      exact ⟨rfl, (Keep.refl _ w).drewN n⟩
  · have H1 := Lib.hid (at_err h p a he)
    have hr : sameE S p a q b = false := by unfold sameE; simp [he]
    rw [hr]
    have hne : (atE S p a == 0) = false := by simpa using he
    clear hr
    by_cases he2 : atE S q b = 0
    · obtain ⟨q, b, rfl, rfl, hq, hb, hh2, hf2⟩ := at_ok_cases S q b he2
      have H2 := Lib.hid (at_ok h q b hq hb hh2 hf2)
      clear h he2 hf2
      generalize atE S p a = er at *
      go_enter Try.func19, Try.ntmps19
      go_wp2_with fail
      refine H1.out.mono ?_
      rintro e w' ⟨rfl, rfl⟩
      go_wp2_with fail
      refine H2.out.mono ?_
      rintro e w' ⟨rfl, m, rfl⟩
      go_wp2
      go_ret
      exact ⟨rfl, (Keep.refl _ w).drewN m⟩
    · have H2 := Lib.hid (at_err h q b he2)
      clear h
      generalize atE S p a = er at *
      generalize atE S q b = er2 at *
      go_enter Try.func19, Try.ntmps19
      go_wp2_with fail
      refine H1.out.mono ?_
      rintro e w' ⟨rfl, rfl⟩
      go_wp2_with fail
      refine H2.out.mono ?_
      rintro e w' ⟨rfl, rfl⟩
      go_wp2
      go_ret
      exact ⟨rfl, Keep.refl _ w⟩
end
end Go.Proofs.Ytdiginkpclbmdaa
