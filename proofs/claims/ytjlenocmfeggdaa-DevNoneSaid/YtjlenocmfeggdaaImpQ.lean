/- The copies of rows of 32 bytes, and Fork of a memory. -/
import Derived.Test.YtjlenocmfeggdaaImpP
namespace Go.Proofs.Ytjlenocmfeggdaa
open Go.RowKit
attribute [local go_sem] cell_alloc_some frozen_alloc_some
theorem grid_one (n : Nat) (f : Nat → Nat → UInt8) : ∀ u ∈ grid n f, u.oneCell' = true := by
  intro u hu
  unfold grid row at hu
  obtain ⟨k, _, rfl⟩ := List.mem_map.1 hu
  rfl
theorem grid_holds {w : World} {b t n : Nat} {f : Nat → Nat → UInt8} {rs : List Value} (h : Blk w b t (gridT n f rs)) : Holds w (some ⟨b, 0, none⟩) n 32 (grid n f) :=
  .inr ⟨_, rfl, grid_len n f, fun j u hu => by
    rw [Addr.add_mid, Nat.zero_add]
    refine h.cell_of ?_
    unfold gridT
    rw [List.getElem?_append_left (List.getElem?_eq_some_iff.1 hu).1]
    exact hu⟩
/-- a row that is owned is a block that is known whole -/
theorem own_block {w : World} {base e size n : Nat} {v : Value} {xs : List Value} (h : w.ownsRow base e size v n xs) (hn : 0 < n) : ∃ g cap rest, v = .slice (some ⟨g, 0, none⟩) n cap ∧ base ≤ g ∧ n ≤ cap ∧ Blk w g e (xs ++ rest) := by
  rcases h.2 with ⟨_, h0⟩ | ⟨g, cap, cur, rfl, hb, hh, h1, _, _, h4⟩
  · omega
  · refine ⟨g, cap, cur.toList.drop (n * size), rfl, hb, h1, ?_⟩
    unfold Blk
    rw [← h4, List.take_append_drop]
    simpa using hh
section
variable {w : World}
set_option maxRecDepth 100000 in
theorem clone_frames (b n cap : Nat) (f : Nat → Nat → UInt8) (rs : List Value) (hb : Blk w b 115 (gridT n f rs)) (h0 : 0 < n) (hn : n ≤ 64) :
    Calls Try.prog 59 #[.slice (some ⟨b, 0, none⟩) n cap] w fun e w' => ∃ g c rest, e = .returned (.slice (some ⟨g, 0, none⟩) n c) ∧ Blk w' g 115 (gridT n f rest) ∧ w.heap.size ≤ g ∧ Keep none_ w w' := by
  obtain ⟨i0, hi, hz0, hz1, hz2⟩ := info_parts info115
  have he := fun a n c n' c' w => Lib.run_eql_slice_nil (P := Try.prog) w 100 115 a n c n' c' Try.underlying100
  have HH : Hid (Holds (w.alloc (.cells #[] 115)) (some ⟨b, 0, none⟩) n 32 (grid n f)) := (grid_holds hb).keep (G := none_) ((Keep.refl _ w).alloc _) (fun _ _ => id)
  have HO : Hid ((w.alloc (.cells #[] 115)).ownsRow w.heap.size 115 32 (.slice (some ⟨w.heap.size, 0, none⟩) 0 0) 0 []) := World.ownsRow_made (e := 115) (size := 32) (base := w.heap.size) w #[] 0 (Nat.le_refl _) (by decide) rfl
  have HB := Lib.hid (grid_one n f)
  have HE : Hid (∀ {W : World} {v' : Value}, W.ownsRow w.heap.size 115 32 v' (0 + n) ([] ++ grid n f) → ∃ g c rest, v' = .slice (some ⟨g, 0, none⟩) n c ∧ Blk W g 115 (gridT n f rest) ∧ w.heap.size ≤ g) := fun h => by
    rw [Nat.zero_add, List.nil_append] at h
    obtain ⟨g, c, rest, rfl, h1, _, h2⟩ := own_block h h0
    exact ⟨g, c, rest, rfl, h2, h1⟩
  have HZ : Hid ((Value.agg (Array.replicate 32 (.int .u8 0))).cells.size = 32) := by simp [Value.cells, Hid]
  clear hb
  generalize grid n f = L at *
  go_enter Try.func59, Try.ntmps59
  go_wp2_with (at_builtin; refine wpList_append_gen rfl _ _ 100 rfl w.heap.size 115 i0 _ 32 32 Try.underlying100 hi hz0 hz1 hz2 HZ.out (by decide) (.slice (some ⟨w.heap.size, 0, none⟩) 0 0) 0 [] rfl HO.out (some ⟨b, 0, none⟩) n cap L rfl HH.out HB.out (by unfold maxLen; omega) (by omega) (by simp) ?_; intro v' w' hown hg hob)
  have HK : Hid (Keep none_ w w') := ((Keep.refl none_ w).alloc _).thenF (Keep.of_grown hg) (fun x hx => .inr (by injection hx with hx; exact Nat.le_of_eq hx))
  obtain ⟨g, c, rest, hv, hbl, hgb⟩ := HE.out hown
  have HV := Lib.hid hv
  have HBL := Lib.hid hbl
  clear hown hg hob hv hbl
  go_wp2
  go_ret
  exact ⟨g, c, rest, by rw [← HV.out]; rfl, HBL.out, hgb, HK.out⟩
set_option maxRecDepth 100000 in
theorem clone_sectors (b n cap : Nat) (f : Nat → Nat → UInt8) (rs : List Value) (hb : Blk w b 98 (gridT n f rs)) (h0 : 0 < n) (hn : n ≤ 64) :
    Calls Try.prog 58 #[.slice (some ⟨b, 0, none⟩) n cap] w fun e w' => ∃ g c rest, e = .returned (.slice (some ⟨g, 0, none⟩) n c) ∧ Blk w' g 98 (gridT n f rest) ∧ w.heap.size ≤ g ∧ Keep none_ w w' := by
  obtain ⟨i0, hi, hz0, hz1, hz2⟩ := info_parts info98
  have he := fun a n c n' c' w => Lib.run_eql_slice_nil (P := Try.prog) w 90 98 a n c n' c' Try.underlying90
  have HH : Hid (Holds (w.alloc (.cells #[] 98)) (some ⟨b, 0, none⟩) n 32 (grid n f)) := (grid_holds hb).keep (G := none_) ((Keep.refl _ w).alloc _) (fun _ _ => id)
  have HO : Hid ((w.alloc (.cells #[] 98)).ownsRow w.heap.size 98 32 (.slice (some ⟨w.heap.size, 0, none⟩) 0 0) 0 []) := World.ownsRow_made (e := 98) (size := 32) (base := w.heap.size) w #[] 0 (Nat.le_refl _) (by decide) rfl
  have HB := Lib.hid (grid_one n f)
  have HE : Hid (∀ {W : World} {v' : Value}, W.ownsRow w.heap.size 98 32 v' (0 + n) ([] ++ grid n f) → ∃ g c rest, v' = .slice (some ⟨g, 0, none⟩) n c ∧ Blk W g 98 (gridT n f rest) ∧ w.heap.size ≤ g) := fun h => by
    rw [Nat.zero_add, List.nil_append] at h
    obtain ⟨g, c, rest, rfl, h1, _, h2⟩ := own_block h h0
    exact ⟨g, c, rest, rfl, h2, h1⟩
  have HZ : Hid ((Value.agg (Array.replicate 32 (.int .u8 0))).cells.size = 32) := by simp [Value.cells, Hid]
  clear hb
  generalize grid n f = L at *
  go_enter Try.func58, Try.ntmps58
  go_wp2_with (at_builtin; refine wpList_append_gen rfl _ _ 90 rfl w.heap.size 98 i0 _ 32 32 Try.underlying90 hi hz0 hz1 hz2 HZ.out (by decide) (.slice (some ⟨w.heap.size, 0, none⟩) 0 0) 0 [] rfl HO.out (some ⟨b, 0, none⟩) n cap L rfl HH.out HB.out (by unfold maxLen; omega) (by omega) (by simp) ?_; intro v' w' hown hg hob)
  have HK : Hid (Keep none_ w w') := ((Keep.refl none_ w).alloc _).thenF (Keep.of_grown hg) (fun x hx => .inr (by injection hx with hx; exact Nat.le_of_eq hx))
  obtain ⟨g, c, rest, hv, hbl, hgb⟩ := HE.out hown
  have HV := Lib.hid hv
  have HBL := Lib.hid hbl
  clear hown hg hob hv hbl
  go_wp2
  go_ret
  exact ⟨g, c, rest, by rw [← HV.out]; rfl, HBL.out, hgb, HK.out⟩
/-- Fork of a memory -/
theorem memfork_any (M b n cap : Nat) (f : Nat → Nat → UInt8) (rs : List Value) (hM : Blk w M 102 [.slice (some ⟨b, 0, none⟩) n cap]) (hb : Blk w b 115 (gridT n f rs)) (h0 : 0 < n) (hn : n ≤ 64) :
    Calls Try.prog 31 #[.pointer (some ⟨M, 0, none⟩)] w fun e w' => ∃ M' g c rest, e = .returned (.pointer (some ⟨M', 0, none⟩)) ∧ Blk w' M' 102 [.slice (some ⟨g, 0, none⟩) n c] ∧ Blk w' g 115 (gridT n f rest) ∧ w.heap.size ≤ g ∧ w.heap.size ≤ M' ∧ Keep none_ w w' := by
  have c0 := hM.cell_of (i := 0) rfl
  have H1 := Lib.hid (clone_frames b n cap f rs hb h0 hn)
  clear hM hb
  go_enter Try.func31, Try.ntmps31
  go_wp2_with fail
  refine H1.out.mono ?_
  rintro e W ⟨g, c, rest, rfl, hb, hg, hk⟩
  have HB := Lib.hid hb
  have HK := Lib.hid hk
  have HS := Lib.hid hk.size
  clear hb hk
  go_wp2
  go_ret
  exact ⟨_, g, c, rest, rfl, Blk.new W 102 _, HB.out.alloc _, hg, HS.out, HK.out.trans ((Keep.refl _ W).alloc _)⟩
end
end Go.Proofs.Ytjlenocmfeggdaa
