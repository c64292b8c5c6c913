/- The walks of Delete of requests, and pop. -/
import Derived.Test.YtjlenocmfeggdaaImpD
import Derived.Test.YtjlenocmfeggdaaToolsB
namespace Go.Proofs.Ytjlenocmfeggdaa
open Go.RowKit
attribute [local go_sem] cell_alloc_some frozen_alloc_some
theorem flatQ_take : ∀ (l : List Req) (i : Nat), (flatQ l).take (i * 5) = flatQ (l.take i)
  | [], i => by simp [flatQ]
  | r :: l, 0 => by simp [flatQ]
  | r :: l, i + 1 => by
    show (reqc r ++ flatQ l).take ((i + 1) * 5) = reqc r ++ flatQ (l.take i)
    rw [List.take_append, List.take_of_length_le (by show 5 ≤ _; omega), show (i + 1) * 5 - (reqc r).length = i * 5 by show (i + 1) * 5 - 5 = _; omega, flatQ_take l i]
theorem flatQ_drop : ∀ (l : List Req) (i : Nat), (flatQ l).drop (i * 5) = flatQ (l.drop i)
  | [], i => by simp [flatQ]
  | r :: l, 0 => by simp
  | r :: l, i + 1 => by
    show (reqc r ++ flatQ l).drop ((i + 1) * 5) = flatQ (l.drop i)
    rw [List.drop_append, List.drop_of_length_le (by show 5 ≤ _; omega), show (i + 1) * 5 - (reqc r).length = i * 5 by show (i + 1) * 5 - 5 = _; omega, flatQ_drop l i, List.nil_append]
theorem own_cut {w : World} {base e size g n cap k : Nat} {xs : List Value} (h : w.ownsRow base e size (.slice (some ⟨g, 0, none⟩) n cap) n xs) (hk : k ≤ n) : w.ownsRow base e size (.slice (some ⟨g, 0, none⟩) k cap) k (xs.take (k * size)) := by
  have hks : k * size ≤ n * size := Nat.mul_le_mul_right _ hk
  refine ⟨by rw [List.length_take, h.1]; omega, ?_⟩
  rcases h.2 with ⟨hv, _⟩ | ⟨g', cap', cur, hv, hb, hh, h1, h2, h3, h4⟩
  · cases hv
  · injection hv with e1 e2 e3
    injection e1 with e1
    injection e1 with e1
    subst e1 e3
    refine .inr ⟨g, cap, cur, rfl, hb, hh, by omega, h2, h3, ?_⟩
    rw [← h4, List.take_take, Nat.min_eq_left hks]
theorem zero44 (w : World) : (zeroValue 44).run Try.prog w = .ok (.agg #[.int .u32 0, .bool false, .int .i64 0, .int .i64 0, .int .u8 0]) w := by kernel_rfl
set_option maxRecDepth 100000 in
set_option maxHeartbeats 1000000 in
theorem delete_any (w : World) (g m cap : Nat) (l : List Req) (hq : w.ownsRow 0 44 5 (.slice (some ⟨g, 0, none⟩) (m + 1) cap) (m + 1) (flatQ l)) (i : Nat) (hi : i ≤ m) (hn : m ≤ 1000) :
    Calls Try.prog 69 #[.slice (some ⟨g, 0, none⟩) (m + 1) cap, .int .i64 i, .int .i64 (i + 1)] w fun e w' => e = .returned (.slice (some ⟨g, 0, none⟩) m cap) ∧ w'.ownsRow 0 44 5 (.slice (some ⟨g, 0, none⟩) m cap) m (flatQ (l.eraseIdx i)) ∧ Keep (· = g) w w' := by
  obtain ⟨n, hnm⟩ : ∃ n, n = m + 1 := ⟨_, rfl⟩
  rw [← hnm] at hq ⊢
  have HNM := Lib.hid hnm
  have hi' : i < n := by omega
  have hn' : n ≤ 1001 := by omega
  obtain ⟨i0, hi0, hz0, hz1, hz2⟩ := info_parts info44
  obtain ⟨A', cap', hv, hc1, hc2⟩ := own_form hq
  injection hv with e1 e2 e3
  subst e3
  clear e1 e2 A'
  have hlen : l.length = n := by have h1 := hq.1; rw [flatQ_len] at h1; omega
  have HO1 := Lib.hid (own_cut hq (Nat.le_of_lt hi'))
  have HO2 : Hid (∀ W : World, W.ownsRow 0 44 5 (.slice (some ⟨g, 0, none⟩) (i + (n - (i + 1))) cap) (i + (n - (i + 1))) ((flatQ l).take (i * 5) ++ flatQ (l.drop (i + 1))) → W.ownsRow 0 44 5 (.slice (some ⟨g, 0, none⟩) m cap) m (flatQ (l.eraseIdx i))) := fun W h => by
    rw [flatQ_take, ← flatQ_append, ← List.eraseIdx_eq_take_drop_succ, show i + (n - (i + 1)) = m by omega] at h; exact h
  have hAA : ∃ A : Addr, (if cap = i + 1 then some (⟨g, 0, none⟩ : Addr) else some ⟨g, (i + 1) * 5, none⟩) = some A ∧ ∀ j u, (flatQ (l.drop (i + 1)))[j]? = some u → w.cell? (A.add j) = some u := by
    by_cases hci : cap = i + 1
    · refine ⟨_, if_pos hci, fun j u hu => ?_⟩
      rw [List.drop_of_length_le (by omega)] at hu
      simp [flatQ] at hu
    · refine ⟨_, if_neg hci, fun j u hu => ?_⟩
      have hu2 : (flatQ l)[(i + 1) * 5 + j]? = some u := by rw [← flatQ_drop, List.getElem?_drop] at hu; exact hu
      have := ownsRow_cell hq hu2
      rw [Addr.add_mid] at this ⊢
      rw [Nat.zero_add] at this
      exact this
  obtain ⟨A, hA, hnw⟩ := hAA
  have HA := Lib.hid hA
  have HN := Lib.hid hnw
  clear hA hnw
  have HL : Hid ((flatQ (l.drop (i + 1))).length = (n - (i + 1)) * 5) := by rw [flatQ_len, List.length_drop, hlen]; exact Lib.hid rfl
  have H1 := Lib.hid (flatQ_one (l.drop (i + 1)))
  have j0 : (0 : Int) ≤ (i : Int) := by omega
  have j1 : (i : Int) ≤ (n : Int) := by omega
  have j2 : (i : Int) + 1 ≤ (n : Int) := by omega
  have j3 : (n : Int) ≤ (cap : Int) := by omega
  have j4 : (n : Int) ≤ 1001 := by omega
  have j5 : ((i : Int) == (i : Int) + 1) = false := by rw [beq_eq_false_iff_ne]; omega
  have j6 : (i : Int) ≤ (cap : Int) := by omega
  have j7 : (0 : Int) ≤ (i : Int) + 1 := by omega
  have jc : (cap : Int) ≤ 9223372036854775807 := by unfold maxLen at hc2; omega
  generalize flatQ (l.drop (i + 1)) = news at *
  generalize (flatQ l).take (i * 5) = xs at *
  clear hq hlen hnm
  go_enter Try.func69, Try.ntmps69
  go_wp2_with fail
  refine wp_region_X (S := fun _ => True) (last := 7) (by kernel_rfl) ?_
  refine wpAnyX_take (i := 0) (v := ?_) rfl (by kernel_rfl) (by kernel_rfl) (by kernel_rfl) (by kernel_rfl) (by decide) (fun _ _ _ h => h) trivial (Or.inl ⟨by rfl, fun W _ => ?_⟩) ?_
  rotate_left
  { go_simp
    with_reducible rfl }
  refine wpAnyX_take (i := 1) (v := ?_) rfl (by kernel_rfl) (by kernel_rfl) (by kernel_rfl) (by kernel_rfl) (by decide) (fun _ _ _ h => h) trivial (Or.inl ⟨by rfl, fun W _ => ?_⟩) ?_
  rotate_left
  { go_simp
    with_reducible rfl }
  refine wpAnyX_take (i := 2) (v := ?_) rfl (by kernel_rfl) (by kernel_rfl) (by kernel_rfl) (by kernel_rfl) (by decide) (fun _ _ _ h => h) trivial (Or.inl ⟨by rfl, fun W _ => ?_⟩) ?_
  rotate_left
  { go_simp
    with_reducible rfl }
  refine wpAnyX_take (i := 3) (v := ?_) rfl (by kernel_rfl) (by kernel_rfl) (by kernel_rfl) (by kernel_rfl) (by decide) (fun _ _ _ h => h) trivial (Or.inl ⟨by rfl, fun W _ => ?_⟩) ?_
  rotate_left
  { go_simp
    with_reducible rfl }
  refine wpAnyX_take (i := 4) (v := ?_) rfl (by kernel_rfl) (by kernel_rfl) (by kernel_rfl) (by kernel_rfl) (by decide) (fun _ _ _ h => h) trivial (Or.inl ⟨by rfl, fun W _ => ?_⟩) ?_
  rotate_left
  { go_simp
    with_reducible rfl }
  refine wpAnyX_take (i := 5) (v := ?_) rfl (by kernel_rfl) (by kernel_rfl) (by kernel_rfl) (by kernel_rfl) (by decide) (fun _ _ _ h => h) trivial (Or.inl ⟨by rfl, fun W _ => ?_⟩) ?_
  rotate_left
  { go_simp
    with_reducible rfl }
  refine wpAnyX_ready (rs := [6]) (by kernel_rfl) (by simp) ?_
  refine AllX.cons rfl (fun K hK => ?_) AllX.nil
  refine step_append_fits (by rfl) _ _ 38 (by rfl) 0 44 i0 5 Try.underlying38 hi0 hz1 g i cap xs ?hs (World.ownsRow.drew HO1.out) A (n - (i + 1)) (cap - (i + 1)) news ?hx HL.out HN.out H1.out (by omega) ?_
  case hs => go_simp
  case hx => (go_simp; exact HA.out)
  intro W1 hown1 hg1
  rw [show i + (n - (i + 1)) = m by have := HNM.out; omega]
  refine hK.out _ _ (.inr trivial) ?_
  clear hK K
  have hk1 : Keep (· = g) w W1 := ((Keep.refl (· = g) w).drew).thenF (Keep.of_grown hg1) (fun x hx => .inl (by injection hx with hx; exact hx.symm))
  have hown := HO2.out _ hown1
  have HK1 := Lib.hid hk1
  have HW1 := Lib.hid hown
  clear hown1 hg1 hk1 hown
  refine wpAnyX_ready (rs := [7]) (by kernel_rfl) (by simp) ?_
  refine AllX.cons rfl (fun K hK => ?_) AllX.nil
  go_simp
  refine hK.out _ _ (.inl rfl) ?_
  clear hK K
  refine wpAnyX_done (by kernel_rfl) ?_ _
  clear HA HN HL H1 HO1 HO2
  generalize (if cap = i + 1 then some (⟨g, 0, none⟩ : Addr) else some ⟨g, (i + 1) * 5, none⟩) = B
  have k0 : (m : Int) ≤ (n : Int) := by have := HNM.out; omega
  have k1 : (0 : Int) ≤ (m : Int) := by omega
  have k2 : (n : Int) ≤ (cap : Int) := by omega
  have k3 : ¬ (cap = m) := by have := HNM.out; omega
  go_wp2_with (refine wpList_clear_own rfl _ 38 rfl 0 44 _ 5 Try.underlying38 zero44 rfl (by simp [Value.cells, Value.oneCell']) g m cap (flatQ (l.eraseIdx i)) HW1.out (n - m) (cap - m) (by have := HNM.out; omega) ?hc ?_; (case hc => (go_simp)); intro W2 hown2 hk2 _)
  have HK2 : Hid (Keep (· = g) w W2) := HK1.out.trans hk2
  have HW2 := Lib.hid hown2
  clear hown2 hk2
  go_wp2
  go_ret
  exact ⟨rfl, HW2.out, HK2.out⟩
end Go.Proofs.Ytjlenocmfeggdaa
