/- The walk of the law DevCancels. -/
import Derived.Test.YtjlenocmfeggdaaSameB
import Derived.Test.YtjlenocmfeggdaaImpM
namespace Go.Proofs.Ytjlenocmfeggdaa
open Go.RowKit
attribute [local go_sem] cell_alloc_some frozen_alloc_some
section
variable {a w : World} {D M R Q : Nat} {S S2 : St} {G : Nat → Prop}
theorem Two.cancelT (h : Two a w D M R Q S S2 G) (i : Int) : Calls Try.prog 19 #[.pointer (some ⟨D, 0, none⟩), .int .i64 i] w fun e w' => (∃ u, e = .returned u ∧ IdsAt w' w.heap.size u (outL S (ofFrame i))) ∧ Two a w' D M R Q (outS S (ofFrame i)) S2 G :=
  h.stepT (P := fun e w' => ∃ u, e = .returned u ∧ IdsAt w' w.heap.size u (outL S (ofFrame i))) fun F v sb fb T h1 hF => by
    refine (cancel_any h1 i).mono ?_
    rintro e w' ⟨u, rfl, ho, ⟨v', hr⟩, hk⟩
    exact ⟨⟨u, rfl, ho⟩, ⟨v', sb, fb, T, hr.more fun b hb => .inl hb⟩, hk⟩
theorem Two.dropT (h : Two a w D M R Q S S2 G) (o : Int) : Calls Try.prog 15 #[.pointer (some ⟨D, 0, none⟩), .int .u8 o] w fun e w' => (∃ u, e = .returned u ∧ IdsAt w' w.heap.size u (outL S (ofOwner o))) ∧ Two a w' D M R Q (outS S (ofOwner o)) S2 G :=
  h.stepT (P := fun e w' => ∃ u, e = .returned u ∧ IdsAt w' w.heap.size u (outL S (ofOwner o))) fun F v sb fb T h1 hF => by
    refine (drop_any h1 o).mono ?_
    rintro e w' ⟨u, rfl, ho, ⟨v', hr⟩, hk⟩
    exact ⟨⟨u, rfl, ho⟩, ⟨v', sb, fb, T, hr.more fun b hb => .inl hb⟩, hk⟩
/-- a box of the four pointers, laid beside them: it stays -/
theorem Two.boxed (h : Two a w D M R Q S S2 G) : Two (w.alloc (.cells (xcells D M R Q).toArray 29)) (w.alloc (.cells (xcells D M R Q).toArray 29)) D M R Q S S2 (mid a w G) := h.enter ((Keep.refl _ w).alloc _)
theorem Two.stay {a0 w0 V : World} {G0 : Nat → Prop} {S1 S3 : St} (h : Two (w0.alloc (.cells (xcells D M R Q).toArray 29)) V D M R Q S1 S3 (mid a0 w0 G0)) : Blk V w0.heap.size 29 (xcells D M R Q) := (Blk.new w0 29 _).keep h.keep (fun hm => by have := hm.2; omega)
end
theorem out_len (S : St) (p : Req → Bool) : (outS S p).q.length + (outL S p).length = S.q.length := by
  unfold outS outL
  simp only [List.length_map]
  induction S.q with
  | nil => rfl
  | cons r l ih => by_cases h : p r = true <;> simp [h] at ih ⊢ <;> omega
theorem out_not {S : St} {p : Req → Bool} {k : Nat} {r : Req} (h : (outS S p).q[k]? = some r) : p r = false := by
  have := List.mem_of_getElem? h
  unfold outS at this
  simpa using (List.mem_filter.1 this).2
set_option maxRecDepth 100000 in
set_option maxHeartbeats 1000000 in
theorem cancels_all (w : World) (v : Value) (ds : List Deed) (hd : Deeds w v ds) (f : Int) :
    Calls Try.prog 5 #[v, .int .i64 f] w fun e w' => e = .returned (.bool true) ∧ Keep none_ w w' := by
  have H0 := Lib.hid (play_any w v ds hd)
  obtain ⟨A, n, cap, rfl⟩ : ∃ A n cap, v = .slice A n cap := by
    rcases hd with ⟨_, rfl⟩ | ⟨a, cap, rfl, _⟩
    · exact ⟨none, 0, 0, rfl⟩
    · exact ⟨_, _, cap, rfl⟩
  clear hd
  go_enter Try.func5, Try.ntmps5
  go_wp2_with fail
  refine H0.out.mono ?_
  rintro e w1 ⟨D, M, R, Q, rfl, h1⟩
  obtain ⟨S, hS⟩ : ∃ S, S = playS ds := ⟨_, rfl⟩
  rw [← hS] at h1
  have hq8 := h1.one.inv.q8
  have HQ8 := Lib.hid hq8
  obtain ⟨wb, hwb⟩ : ∃ wb, wb = w1.alloc (.cells (xcells D M R Q).toArray 29) := ⟨_, rfl⟩
  have HLV : Hid (∀ {V : World} {S1 S3 : St}, Two wb V D M R Q S1 S3 (mid w w1 none_) → Two w V D M R Q S1 S3 none_) := fun h => h.leave (by rw [hwb]; exact (Keep.refl _ w1).alloc _) h1.keep
  have HBX : Hid (∀ {V : World} {S1 S3 : St}, Two wb V D M R Q S1 S3 (mid w w1 none_) → Blk V w1.heap.size 29 (xcells D M R Q)) := fun h => by rw [hwb] at h; exact h.stay
  have H1 : Hid (Two wb wb D M R Q S S (mid w w1 none_)) := by rw [hwb]; exact h1.boxed
  have HL := Lib.hid (live_any wb)
  have HWB := Lib.hid hwb
  clear h1 H0 hS hwb hq8
  unfold xcells at HBX HWB ⊢
  go_wp2_with fail
  rw [← HWB.out]
  refine HL.out.mono ?_
  rintro e w2 ⟨rfl, hk2⟩
  have H2 := Lib.hid (H1.out.keep0 hk2)
  have c0 := (HBX.out H2.out).cell_of (i := 0) rfl
  have HA := Lib.hid H2.out.waitT
  clear hk2 H1 HL
  go_wp2_with fail
  refine HA.out.mono ?_
  rintro e w3 ⟨⟨u, rfl, hu⟩, hk3⟩
  obtain ⟨Au, cu, rfl, _, _⟩ := own_form hu
  have H3 := Lib.hid (H2.out.keep0 hk3)
  have HC := Lib.hid (H3.out.cancelT f)
  replace c0 := (HBX.out H3.out).cell_of (i := 0) rfl
  obtain ⟨len, hlen⟩ : ∃ len, len = S.q.length := ⟨_, rfl⟩
  rw [← hlen]
  have HLEN := Lib.hid hlen
  clear hk3 H2 HA hlen hu
  go_wp2_with fail
  refine HC.out.mono ?_
  rintro e w4 ⟨⟨u2, rfl, hu2⟩, h4⟩
  obtain ⟨Au2, cu2, rfl, _, _⟩ := own_form hu2
  have H4 := Lib.hid h4
  have HA := Lib.hid H4.out.waitT
  replace c0 := (HBX.out H4.out).cell_of (i := 0) rfl
  obtain ⟨len2, hlen2⟩ : ∃ len, len = (outL S (ofFrame f)).length := ⟨_, rfl⟩
  rw [← hlen2]
  have HLEN2 := Lib.hid hlen2
  clear H3 HC hlen2 hu2 h4
  go_wp2_with fail
  refine HA.out.mono ?_
  rintro e w5 ⟨⟨u3, rfl, hu3⟩, hk5⟩
  obtain ⟨Au3, cu3, rfl, _, _⟩ := own_form hu3
  have HU3 := Lib.hid hu3
  have HK5 := Lib.hid (HLV.out (H4.out.keep0 hk5)).keep
  obtain ⟨ql, hql⟩ : ∃ ql, ql = (outS S (ofFrame f)).q := ⟨_, rfl⟩
  rw [← hql] at HU3 ⊢
  have HQL := Lib.hid hql
  have hl3 : ql.length + len2 = len := by rw [HQL.out, HLEN2.out, HLEN.out]; exact out_len S _
  have hl8 : len ≤ 8 := by rw [HLEN.out]; exact HQ8.out
  obtain ⟨m3, hm3⟩ : ∃ m, m = ql.length := ⟨_, rfl⟩
  rw [← hm3] at hl3
  have HM3 := Lib.hid hm3
  unfold Reqs at HU3
  rw [← hm3] at HU3 ⊢
  clear hk5 hql HA H4 hu3 c0 hm3
  have il : (len : Int) = (m3 : Int) + (len2 : Int) := by omega
  go_wp2_with fail

  go_loopw [10] (fun x wr => ∃ k : Nat, k ≤ m3 ∧ x = .int .i64 k ∧ wr = w5) (fun x _ => m3 - (intOf x).toNat)
  case atStart => exact ⟨0, by omega, rfl, rfl⟩
  case round =>
    obtain ⟨k, hk, rfl, rfl⟩ := hrel
    by_cases hkn : k < m3
    · have i1 : (0 : Int) ≤ (k : Int) := by omega
      have i2 : (k : Int) < (m3 : Int) := by omega
      obtain ⟨x, hx⟩ : ∃ x, ql[k]? = some x := ⟨_, List.getElem?_eq_getElem (by have := HM3.out; omega)⟩
      obtain ⟨ga, hA⟩ : ∃ g, Au3 = some ⟨g, 0, none⟩ := by
        obtain ⟨g, c, hv, _⟩ := HU3.out.form (by omega)
        injection hv with e
        exact ⟨g, e⟩
      subst hA
      obtain ⟨a0, a1, a2, a3, a4⟩ := own_reqCells HU3.out hx
      have hne : (x.fr == f) = false := by
        have := out_not (p := ofFrame f) (S := S) (k := k) (r := x) (by rw [← HQL.out]; exact hx)
        exact this
      have hne' : ¬ x.fr = f := by simpa using hne
      clear hx a0 a1 a2 a4
      go_wp2
      go_roundw
      case rel => exact ⟨k + 1, by omega, by go_num, trivial⟩
      case measure => simp [intOf]; omega
    · have i2 : ¬ ((k : Int) < (m3 : Int)) := by omega
      go_wp2
      go_ret

      exact ⟨rfl, HK5.out⟩
end Go.Proofs.Ytjlenocmfeggdaa
