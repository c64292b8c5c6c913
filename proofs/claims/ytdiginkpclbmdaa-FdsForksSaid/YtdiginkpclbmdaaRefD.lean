/- The walks of the document's Get and Same. -/
import Derived.Test.YtdiginkpclbmdaaRefC
namespace Go.Proofs.Ytdiginkpclbmdaa
open Go.RowKit
attribute [local go_sem] cell_alloc_some frozen_alloc_some
section
variable {w w' : World} {R : Nat} {S : St} {v : Value} {F : Nat → Prop}
theorem flat_len (l : List Op3) : (flat l).length = l.length * 3 := by
  unfold flat
  induction l with
  | nil => rfl
  | cons o l ih => simp [List.flatMap_cons, opc, ih]; omega
theorem flat_get : ∀ (l : List Op3) (m : Nat) (o : Op3), l[m]? = some o → (flat l)[m * 3]? = some (.int .u8 o.kind) ∧ (flat l)[m * 3 + 1]? = some (.int .i64 o.ref) ∧ (flat l)[m * 3 + 2]? = some (.int .i64 o.pos)
  | [], m, o, h => by simp at h
  | x :: l, 0, o, h => by
    simp at h; subst h
    exact ⟨rfl, rfl, rfl⟩
  | x :: l, m + 1, o, h => by
    have := flat_get l m o (by simpa using h)
    have e : flat (x :: l) = opc x ++ flat l := by simp [flat]
    rw [e, show (m + 1) * 3 = 3 + m * 3 by omega]
    have key : ∀ i, (opc x ++ flat l)[3 + i]? = (flat l)[i]? := fun i => by rw [List.getElem?_append_right (by simp [opc])]; simp [opc]
    refine ⟨(key _).trans this.1, ?_, ?_⟩
    · rw [show 3 + m * 3 + 1 = 3 + (m * 3 + 1) by omega]; exact (key _).trans this.2.1
    · rw [show 3 + m * 3 + 2 = 3 + (m * 3 + 2) by omega]; exact (key _).trans this.2.2
theorem what_get {S : St} {m : Nat} (h : m < S.all.length) : S.all[m]? = some (S.what (m + 1)) := by
  unfold St.what
  simp only [List.getD_eq_getElem?_getD, Nat.add_sub_cancel]
  rw [List.getElem?_eq_getElem h]; rfl
theorem RepR.cellO (h : RepR w R S v F) {m : Nat} (hm : m < S.all.length) : ∃ g cap, v = .slice (some ⟨g, 0, none⟩) S.all.length cap ∧
    w.cell? ⟨g, m * 3, none⟩ = some (.int .u8 (S.what (m + 1)).kind) ∧ w.cell? ⟨g, m * 3 + 1, none⟩ = some (.int .i64 (S.what (m + 1)).ref) ∧ w.cell? ⟨g, m * 3 + 2, none⟩ = some (.int .i64 (S.what (m + 1)).pos) := by
  obtain ⟨h1, h2⟩ := h.all
  rcases h2 with ⟨_, h0⟩ | ⟨g, cap, cur, rfl, hg, hh, hc⟩
  · omega
  · have hcell := h.all.cells (g := g) rfl
    obtain ⟨f0, f1, f2⟩ := flat_get S.all m _ (what_get hm)
    have a0 := hcell _ _ f0; have a1 := hcell _ _ f1; have a2 := hcell _ _ f2
    refine ⟨g, cap, rfl, ?_, ?_, ?_⟩
    · rw [show (⟨g, m * 3, none⟩ : Addr) = (⟨g, 0, none⟩ : Addr).add (m * 3) by unfold Addr.add; split <;> simp_all]; exact a0
    · rw [show (⟨g, m * 3 + 1, none⟩ : Addr) = (⟨g, 0, none⟩ : Addr).add (m * 3 + 1) by unfold Addr.add; split <;> simp_all]; exact a1
    · rw [show (⟨g, m * 3 + 2, none⟩ : Addr) = (⟨g, 0, none⟩ : Addr).add (m * 3 + 2) by unfold Addr.add; split <;> simp_all]; exact a2
set_option maxHeartbeats 1000000 in
theorem rget_any (h : RepR w R S v F) (p k : Int) :
    Calls Try.prog 36 #[.pointer (some ⟨R, 0, none⟩), .int .i64 p, .int .i64 k] w fun e w' => e = .returned (.tuple #[opv (getE S p k), .int .i64 (atE S p k)]) ∧ Keep (fun _ => False) w w' := by
  have h1 := h.keep0 ((Keep.refl _ w).alloc (.cells #[.int .u8 0, .int .i64 0, .int .i64 0] 30))
  have H1 := rat_any h1 p k
  by_cases he : atE S p k = 0
  · obtain ⟨q, j, rfl, rfl, hq, hj, hh, hf⟩ := at_ok_cases S p k he
    have hg : getE S q j = S.what (S.fd q j) := by unfold getE; rw [if_pos he]; rfl
    rw [hg, he]
    rw [he] at H1
    have H1 := Lib.hid H1
    obtain ⟨m, hm⟩ : ∃ m, S.fd q j = m + 1 := ⟨S.fd q j - 1, by omega⟩
    have hle := h.inv.le q j hq hj
    have hc := h1.cellF hq hj
    have ha := h1.cellA
    obtain ⟨g, cap, rfl, c0, c1, c2⟩ := h1.cellO (m := m) (by omega)
    rw [hm] at hc ⊢
    have h5 : (q : Int) < 6 := by omega
    have h6 : (j : Int) < 8 := by omega
    have h7 : (m : Int) < (S.all.length : Int) := by omega
    have h8 : S.all.length ≤ 9223372036854775807 := by
      rcases h.all.2 with ⟨hx, _⟩ | ⟨g, cap, cur, hv, _, _, h1, h2, _⟩
      · cases hx
      · unfold maxLen at h2; omega
    clear h h1 hh hf he hg hm hle
    generalize S.what (m + 1) = ob at *
    generalize S.all.length = len at *
    go_enter Try.func36, Try.ntmps36
    go_wp2_with fail
    refine H1.out.mono ?_
    rintro e w' ⟨rfl, rfl⟩
    go_wp2
    go_region
    all_goals go_wp2
    all_goals exact bodyPost_ret (v := .tuple #[opv ob, .int .i64 0]) (by simp [results, Try.results36, go_sem, opv]) rfl ⟨rfl, by repeat (first | exact Keep.refl _ _ | apply Keep.alloc | apply Keep.drewN | apply Keep.drew | (refine Keep.setCell ?_ (.inr (by simp)) _))⟩
  · have hg : getE S p k = zero3 := by unfold getE; rw [if_neg he]
    rw [hg]
    have H1 := Lib.hid H1
    have hne : (atE S p k == 0) = false := by simpa using he
    clear h h1 hg
    generalize atE S p k = er at *
    go_enter Try.func36, Try.ntmps36
    go_wp2_with fail
    refine H1.out.mono ?_
    rintro e w' ⟨rfl, rfl⟩
    go_wp2
    exact bodyPost_ret (v := .tuple #[opv zero3, .int .i64 er]) (by simp [results, Try.results36, go_sem, opv, zero3]) rfl ⟨rfl, by repeat (first | exact Keep.refl _ _ | apply Keep.alloc | apply Keep.drewN | apply Keep.drew | (refine Keep.setCell ?_ (.inr (by simp)) _))⟩
theorem quiet_left {P : Program} {f : FuncId} {args : Array Value} {w : World} {n : Nat} {v : Value}
    (h : Calls P f args (w.drewN n) fun e w' => e = .returned v ∧ w.drewN n = w') : Calls P f args (w.drewN n) fun e w' => e = .returned v ∧ ∃ m, w' = w.drewN m :=
  h.mono fun _ _ ⟨he, hm⟩ => ⟨he, n, hm.symm⟩
theorem quiet_add_left {P : Program} {f : FuncId} {args : Array Value} {w : World} {a n : Nat} {v : Value}
    (h : Calls P f args (w.drewN (a + n)) fun e w' => e = .returned v ∧ w.drewN (a + n) = w') :
    Calls P f args (w.drewN (a + n)) fun e w'' => e = .returned v ∧ ∃ m, w'' = w.drewN (a + m) :=
  h.mono fun _ _ ⟨he, hm⟩ => ⟨he, n, hm.symm⟩
set_option maxHeartbeats 1000000 in
theorem rsame_any (h : RepR w R S v F) (p a q b : Int) :
    Calls Try.prog 37 #[.pointer (some ⟨R, 0, none⟩), .int .i64 p, .int .i64 a, .int .i64 q, .int .i64 b] w fun e w' => e = .returned (.bool (sameE S p a q b)) ∧ Keep (fun _ => False) w w' := by
  have H1 := fun n => rat_any (h.keep0 (Keep.ofDrew n w)) p a
  have H2 := fun n => rat_any (h.keep0 (Keep.ofDrew n w)) q b
  by_cases he : atE S p a = 0
  · obtain ⟨p, a, rfl, rfl, hp, ha, hh, hf⟩ := at_ok_cases S p a he
    rw [he] at H1
    replace H1 := Lib.hid H1
    by_cases he2 : atE S q b = 0
    · obtain ⟨q, b, rfl, rfl, hq, hb, hh2, hf2⟩ := at_ok_cases S q b he2
      rw [he2] at H2
      replace H2 := Lib.hid H2
      have hr : sameE S p a q b = (S.fd p a == S.fd q b) := by unfold sameE; rw [he, he2]; rfl
      rw [hr]
      have c1 := h.cellF hp ha
      have c2 := h.cellF hq hb
      have i1 : (p : Int) < 6 := by omega
      have i2 : (a : Int) < 8 := by omega
      have i3 : (q : Int) < 6 := by omega
      have i4 : (b : Int) < 8 := by omega
      have i5 : (0 : Int) ≤ (p : Int) := by omega
      have i6 : (0 : Int) ≤ (a : Int) := by omega
      have i7 : (0 : Int) ≤ (q : Int) := by omega
      have i8 : (0 : Int) ≤ (b : Int) := by omega
      have hbb : (((S.fd p a : Nat) : Int) == ((S.fd q b : Nat) : Int)) = (S.fd p a == S.fd q b) := by rw [Bool.eq_iff_iff]; simp; omega
      rw [← hbb]
      clear h he he2 hr hf hf2 hh hh2 hbb
      generalize ((S.fd p a : Nat) : Int) = x at *
      generalize ((S.fd q b : Nat) : Int) = y at *
      go_enter Try.func37, Try.ntmps37
      go_wp2
      go_quiet (((first | (go_at_call 49; first | (with_reducible exact quiet_left (H1.out _)) | (with_reducible exact quiet_add_left (H1.out _)) | (with_reducible exact quiet_left (H2.out _)) | (with_reducible exact quiet_add_left (H2.out _))))))
      go_wp2
      go_ret
      exact ⟨rfl, (Keep.refl _ w).drewN _⟩
    · replace H2 := Lib.hid H2
      have hr : sameE S p a q b = false := by unfold sameE; simp [he2]
      rw [hr]
      have hne : (atE S q b == 0) = false := by simpa using he2
      clear h he hr hf hh
      generalize atE S q b = er at *
      go_enter Try.func37, Try.ntmps37
      go_wp2
      go_quiet (((first | (go_at_call 49; first | (with_reducible exact quiet_left (H1.out _)) | (with_reducible exact quiet_add_left (H1.out _)) | (with_reducible exact quiet_left (H2.out _)) | (with_reducible exact quiet_add_left (H2.out _))))))
      go_wp2
      go_ret
      exact ⟨rfl, (Keep.refl _ w).drewN _⟩
  · replace H1 := Lib.hid H1
    have hr : sameE S p a q b = false := by unfold sameE; simp [he]
    rw [hr]
    have hne : (atE S p a == 0) = false := by simpa using he
    clear h hr H2
    generalize atE S p a = er at *
    go_enter Try.func37, Try.ntmps37
    go_wp2
    go_quiet (((first | (go_at_call 49; first | (with_reducible exact quiet_left (H1.out _)) | (with_reducible exact quiet_add_left (H1.out _))))))
    go_wp2
    go_ret
    exact ⟨rfl, (Keep.refl _ w).drewN _⟩
end
end Go.Proofs.Ytdiginkpclbmdaa
