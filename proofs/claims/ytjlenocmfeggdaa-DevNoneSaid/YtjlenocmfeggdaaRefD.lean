/- The document's disk: New. -/
import Derived.Test.YtjlenocmfeggdaaRefC
namespace Go.Proofs.Ytjlenocmfeggdaa
open Go.RowKit
attribute [local go_sem] cell_alloc_some frozen_alloc_some
theorem info35 : (Try.prog.info? 35).map (fun i => (i.zero, i.size, i.bytes)) = some (some (.slice none 0 0), 1, 24) := by kernel_rfl
theorem row_succ (n : Nat) (f : Nat → Value) : row (n + 1) f = row n f ++ [f n] := by simp [row, List.range_succ]
def iput (iv : Nat → Value) (k : Nat) (u : Value) : Nat → Value := fun i => if i = k then u else iv i
theorem row_iput (n : Nat) (iv : Nat → Value) (u : Value) : row (n + 1) (iput iv n u) = row n iv ++ [u] := by
  rw [row_succ]
  congr 1
  · refine row_congr fun i hi => ?_
    unfold iput; rw [if_neg (by omega)]
  · unfold iput; rw [if_pos rfl]
def zeros32 : List Value := (bytes32 (zero2 0)).map byv
theorem zeros32_row (i : Nat) : (bytes32 (zero2 i)).map byv = zeros32 := rfl
theorem run_make_row32 (w : World) : (Instr.makeSlice 35 (.int .i64 32) (.int .i64 32)).run Try.prog w = .ok (.slice (some ⟨w.heap.size, 0, none⟩) 32 32) (w.alloc (.cells zeros32.toArray 5)) := by
  have h := run_make_bytes 1 (by decide) w
  have e : grid 1 zero2 = zeros32 := by simp [grid, zeros32, row, bytes32, zero2]
  rw [e] at h
  exact h
/-- k rows are made -/
structure NInv (w wr : World) (R k : Nat) (sv : Value) (iv : Nat → Value) : Prop where
  disk : Blk wr R 118 [sv, .slice none 0 0, .int .u32 0]
  secs : wr.ownsRow w.heap.size 35 1 sv k (row k iv)
  rows : ∀ i, i < k → wr.ownsRow w.heap.size 5 1 (iv i) 32 zeros32
  hR : w.heap.size ≤ R
  keep : Keep none_ w wr
theorem NInv.step {w wr w1 w3 : World} {R k gz : Nat} {sv sv' : Value} {iv : Nat → Value} (h : NInv w wr R k sv iv) (hk1 : Keep none_ wr w1) (hz : Blk w1 gz 5 zeros32) (hgz : w.heap.size ≤ gz)
    (hk3 : Keep (fun b => sv.ownBlock = some b) w1 w3) (ho : w3.ownsRow w.heap.size 35 1 sv' (k + 1) (row k iv ++ [.slice (some ⟨gz, 0, none⟩) 32 32])) :
    NInv w (w3.setCell ⟨R, 0, none⟩ sv') R (k + 1) sv' (iput iv k (.slice (some ⟨gz, 0, none⟩) 32 32)) := by
  have hD := (h.disk.keep hk1 id).keep hk3 (fun e => own_ne h.secs h.disk (by decide) e)
  have kD : Keep (· = R) w3 (w3.setCell ⟨R, 0, none⟩ sv') := Keep.setCell (S := (· = R)) (p := ⟨R, 0, none⟩) (Keep.refl _ w3) (.inl rfl) _
  have five : ∀ {b : Nat} {cs : List Value}, Blk w1 b 5 cs → Blk (w3.setCell ⟨R, 0, none⟩ sv') b 5 cs := fun hb => (hb.keep hk3 (fun e => own_ne (ownsRow_keep h.secs hk1 (fun _ _ => id)) hb (by decide) e)).keep kD (fun e => ((hb.keep hk3 (fun e => own_ne (ownsRow_keep h.secs hk1 (fun _ _ => id)) hb (by decide) e)).ne_ hD (by decide)) e)
  refine ⟨hD.set_ 0 sv', ?_, fun i hi => ?_, h.hR, ((h.keep.trans hk1).thenF hk3 (fun x hx => .inr (ownsRow_lt h.secs hx).1)).thenF kD (fun x hx => .inr (by subst hx; exact h.hR))⟩
  · rw [row_iput]
    exact ownsRow_keep ho kD (fun b hb e => own_ne ho hD (by decide) (by rw [hb, e]))
  · unfold iput
    by_cases e : i = k
    · rw [if_pos e]
      exact ⟨by simp [zeros32, bytes32], .inr ⟨gz, 32, zeros32.toArray, rfl, hgz, five hz, Nat.le_refl _, by unfold maxLen; omega, by simp [zeros32, bytes32], List.take_of_length_le (by simp [zeros32, bytes32])⟩⟩
    · rw [if_neg e]
      have h1 := h.rows i (by omega)
      refine ⟨h1.1, ?_⟩
      rcases h1.2 with ⟨_, h0⟩ | ⟨g, cap, cur, hv, hg, hh, r⟩
      · omega
      · have hb : Blk wr g 5 cur.toList := by unfold Blk; simpa using hh
        have := five (hb.keep hk1 id)
        exact .inr ⟨g, cap, cur, hv, hg, by unfold Blk at this; simpa using this, r⟩
set_option maxRecDepth 100000 in
set_option maxHeartbeats 2000000 in
theorem rnewdisk_ok (w : World) (n : Nat) (h0 : 0 < n) (hn : n ≤ 64) :
    Calls Try.prog 35 #[.int .i64 n] w fun e w' => ∃ R sv iv, e = .returned (.pointer (some ⟨R, 0, none⟩)) ∧ NInv w w' R n sv iv := by
  obtain ⟨i0, hi0, hz0, hz1, hz2⟩ := info_parts info35
  have hmk := run_make_row32
  have j0 : ¬ ((n : Int) < 1) := by omega
  have j1 : ¬ ((n : Int) > 64) := by omega
  have HST : Hid (NInv w (w.alloc (.cells #[.slice none 0 0, .slice none 0 0, .int .u32 0] 118)) w.heap.size 0 (.slice none 0 0) (fun _ => .slice none 0 0)) :=
    ⟨Blk.new w 118 [.slice none 0 0, .slice none 0 0, .int .u32 0], own_nil _ _ _ _, fun i hi => by omega, Nat.le_refl _, (Keep.refl _ w).alloc _⟩
  go_enter Try.func35, Try.ntmps35
  go_wp2_with fail
  go_loopw [4] (fun x wr => ∃ k : Nat, k ≤ n ∧ x = .int .i64 k ∧ Hid (∃ sv iv, NInv w wr w.heap.size k sv iv)) (fun x _ => 64 - (intOf x).toNat)
  case atStart => exact ⟨0, by omega, rfl, _, _, HST.out⟩
  case round =>
    obtain ⟨k, hk, rfl, HP⟩ := hrel
    obtain ⟨sv, iv, hI⟩ := HP.out
    have HI := Lib.hid hI
    by_cases hkn : k < n
    · have k0 : (0 : Int) ≤ (k : Int) := by omega
      have k1 : (k : Int) < (n : Int) := by omega
      have k2 : (k : Int) ≤ 64 := by omega
      obtain ⟨A, cap, rfl, hc1, hc2⟩ := own_form hI.secs
      have HS := Lib.hid hI.disk
      clear hI HP
      go_wp2_with fail
      refine wp_region_X (S := fun W => Blk W w.heap.size 118 [.slice A k cap, .slice none 0 0, .int .u32 0]) (last := 10) (by kernel_rfl) ?_
      have hS : Blk wr.drew w.heap.size 118 [.slice A k cap, .slice none 0 0, .int .u32 0] := HS.out
      refine wpAnyX_take (i := 0) (v := ?_) rfl (by kernel_rfl) (by kernel_rfl) (by kernel_rfl) (by kernel_rfl) (by decide) (fun _ _ _ h => h) hS (Or.inl ⟨by rfl, fun W hSW => ?_⟩) ?_
      rotate_left
      { have e0 := hSW
        have f0 := e0.cell_of (i := 0) rfl
        go_simp
        with_reducible rfl }
      refine wpAnyX_take (i := 1) (v := ?_) rfl (by kernel_rfl) (by kernel_rfl) (by kernel_rfl) (by kernel_rfl) (by decide) (fun _ _ _ h => h) hS (Or.inl ⟨by rfl, fun W hSW => ?_⟩) ?_
      rotate_left
      { have e0 := hSW
        have f0 := e0.cell_of (i := 0) rfl
        go_simp
        with_reducible rfl }
      refine wpAnyX_take (i := 2) (v := ?_) rfl (by kernel_rfl) (by kernel_rfl) (by kernel_rfl) (by kernel_rfl) (by decide) (fun _ _ _ h => h) hS (Or.inl ⟨by rfl, fun W hSW => ?_⟩) ?_
      rotate_left
      { have e0 := hSW
        have f0 := e0.cell_of (i := 0) rfl
        go_simp
        with_reducible rfl }
      refine wpAnyX_take (i := 3) (v := ?_) rfl (by kernel_rfl) (by kernel_rfl) (by kernel_rfl) (by kernel_rfl) (by decide) (fun _ _ _ h => h) hS (Or.inl ⟨by rfl, fun W hSW => ?_⟩) ?_
      rotate_left
      { have e0 := hSW
        have f0 := e0.cell_of (i := 0) rfl
        go_simp
        with_reducible rfl }
      refine wpAnyX_take (i := 4) (v := ?_) rfl (by kernel_rfl) (by kernel_rfl) (by kernel_rfl) (by kernel_rfl) (by decide) (fun _ _ _ h => h) hS (Or.inl ⟨by rfl, fun W hSW => ?_⟩) ?_
      rotate_left
      { have e0 := hSW
        have f0 := e0.cell_of (i := 0) rfl
        go_simp
        with_reducible rfl }
      obtain ⟨W0, hW0⟩ : ∃ W0, W0 = wr.drew := ⟨_, rfl⟩
      have hk0 : Keep none_ wr W0 := by rw [hW0]; exact (Keep.refl _ wr).drew
      rw [← hW0] at hS ⊢
      clear hW0
      refine wpAnyX_ready (rs := [5]) (by kernel_rfl) (by simp) ?_
      refine AllX.cons rfl (fun K hK => ?_) AllX.nil
      go_simp
      refine hK.out _ _ (.inr (hS.alloc _)) ?_
      clear hK K
      have hz : Blk (W0.alloc (.cells zeros32.toArray 5)) W0.heap.size 5 zeros32 := Blk.new W0 5 zeros32
      refine wpAnyX_ready (rs := [6]) (by kernel_rfl) (by simp) ?_
      refine AllX.cons rfl (fun K hK => ?_) AllX.nil
      go_simp
      refine hK.out _ _ (.inr ((hS.alloc _).alloc _)) ?_
      clear hK K
      have hk1 : Keep none_ wr ((W0.alloc (.cells zeros32.toArray 5)).alloc (.cells #[.slice (some ⟨W0.heap.size, 0, none⟩) 32 32] 35)) := (hk0.alloc _).alloc _
      have hz1' := hz.alloc (.cells #[.slice (some ⟨W0.heap.size, 0, none⟩) 32 32] 35)
      have hbN : Blk ((W0.alloc (.cells zeros32.toArray 5)).alloc (.cells #[.slice (some ⟨W0.heap.size, 0, none⟩) 32 32] 35)) (W0.heap.size + 1) 35 [.slice (some ⟨W0.heap.size, 0, none⟩) 32 32] := by
        have := Blk.new (W0.alloc (.cells zeros32.toArray 5)) 35 [.slice (some ⟨W0.heap.size, 0, none⟩) 32 32]
        rw [World.size_alloc] at this
        exact this
      have hs1 := (hS.alloc (.cells zeros32.toArray 5)).alloc (.cells #[.slice (some ⟨W0.heap.size, 0, none⟩) 32 32] 35)
      have hgz : w.heap.size ≤ W0.heap.size := Nat.le_trans HI.out.keep.size hk0.size
      generalize (W0.alloc (.cells zeros32.toArray 5)).alloc (.cells #[.slice (some ⟨W0.heap.size, 0, none⟩) 32 32] 35) = W1 at *
      have hq1 := ownsRow_keep HI.out.secs hk1 (fun _ _ => id)
      refine wpAnyX_ready (rs := [7]) (by kernel_rfl) (by simp) ?_
      refine AllX.cons rfl (fun K hK => ?_) AllX.nil
      refine step_append_gen rfl _ _ 116 rfl w.heap.size 35 i0 (.slice none 0 0) 1 24 Try.underlying116 hi0 hz0 hz1 hz2 rfl (by decide) (.slice A k cap) k (row k iv) rfl hq1 (some ⟨W0.heap.size + 1, 0, none⟩) 1 1 [.slice (some ⟨W0.heap.size, 0, none⟩) 32 32] rfl (.inr ⟨_, rfl, rfl, hbN.news⟩) (by simp [Value.oneCell']) (by unfold maxLen; omega) (by omega) (Nat.le_trans HI.out.keep.size hk1.size) ?_
      intro v' W2 hown2 hg2 hob2
      have hk2 := Keep.of_grown hg2
      have hbD2 := hs1.keep hk2 (fun e => own_ne hq1 hs1 (by decide) e)
      obtain ⟨g2, cap2, rfl, hcc1, hcc2⟩ := hown2.form (by omega)
      refine hK.out _ _ (.inr hbD2) ?_
      clear hK K
      refine wpAnyX_ready (rs := [8]) (by kernel_rfl) (by simp) ?_
      refine AllX.cons rfl (fun K hK => ?_) AllX.nil
      go_simp
      refine hK.out _ _ (.inr (hbD2)) ?_
      clear hK K
      refine wpAnyX_ready (rs := [9]) (by kernel_rfl) (by simp) ?_
      refine AllX.cons rfl (fun K hK => ?_) AllX.nil
      go_simp
      refine hK.out _ _ (.inr (hbD2)) ?_
      clear hK K
      have d0 := hbD2.cell_of (i := 0) rfl
      have y0 := hbD2.frozen 0
      have HN := Lib.hid (HI.out.step hk1 hz1' hgz hk2 hown2)
      refine wpAnyX_ready (rs := [10]) (by kernel_rfl) (by simp) ?_
      refine AllX.cons rfl (fun K hK => ?_) AllX.nil
      go_simp
      refine hK.out _ _ (.inl rfl) ?_
      clear hK K
      refine wpAnyX_done (by kernel_rfl) ?_ _
      clear hbD2 hown2 hg2 hob2 hk2 hq1 hs1 hbN hz1' hk1 d0 y0 hz hS hk0 hcc1 hcc2
      go_wp2
      go_roundw
      case rel => exact ⟨k + 1, by omega, by go_num, _, _, HN.out⟩
      case measure => simp [intOf]; omega
    · obtain rfl : k = n := by omega
      have k1 : ¬ ((k : Int) < (k : Int)) := by omega
      go_wp2
      go_ret
      exact ⟨_, rfl, _, _, HI.out⟩
end Go.Proofs.Ytjlenocmfeggdaa
