/- The document's memory: New, Fork. -/
import Derived.Test.YtjlenocmfeggdaaRefB
import Derived.Test.YtjlenocmfeggdaaImpC
import Derived.Test.YtjlenocmfeggdaaImpQ
namespace Go.Proofs.Ytjlenocmfeggdaa
open Go.RowKit
attribute [local go_sem] cell_alloc_some frozen_alloc_some
theorem run_make_bytes (n : Nat) (hn : n ≤ 64) (w : World) : (Instr.makeSlice 35 (.int .i64 ((n : Int) * 32)) (.int .i64 ((n : Int) * 32))).run Try.prog w = .ok (.slice (some ⟨w.heap.size, 0, none⟩) (n * 32) (n * 32)) (w.alloc (.cells (grid n zero2).toArray 5)) := by
  obtain ⟨i0, hi, hz0, hz1, hz2⟩ := info_parts info5
  have := run_make (P := Try.prog) w 35 5 i0 _ Try.underlying35 hi hz0 .i64 .i64 ((n * 32 : Nat) : Int) ((n * 32 : Nat) : Int) (by omega) (Int.le_refl _) (by rw [hz2]; omega) (by omega)
  rw [hz1] at this
  have e : madeCells (Value.int .u8 0).cells (n * 32 * 1) = (grid n zero2).toArray := by
    apply Array.toList_inj.1
    unfold madeCells grid row
    simp only [Array.toList_map, Array.toList_range, Value.cells, Nat.mul_one]
    refine List.map_congr_left fun k _ => ?_
    simp [byv, zero2, Nat.mod_one]
  simp only [Int.toNat_natCast] at this
  rw [e] at this
  rw [show ((n * 32 : Nat) : Int) = (n : Int) * 32 by omega] at this
  exact this
set_option maxRecDepth 100000 in
/-- a new memory -/
theorem rnewmem_ok (w : World) (n : Nat) (h0 : 0 < n) (hn : n ≤ 64) :
    Calls Try.prog 36 #[.int .i64 n] w fun e w' => e = .returned (.pointer (some ⟨w.heap.size + 1, 0, none⟩)) ∧ Blk w' (w.heap.size + 1) 120 [.slice (some ⟨w.heap.size, 0, none⟩) (n * 32) (n * 32)] ∧ w'.ownsRow 0 5 1 (.slice (some ⟨w.heap.size, 0, none⟩) (n * 32) (n * 32)) (n * 32) (grid n zero2) ∧ Keep none_ w w' ∧ w'.heap.size = w.heap.size + 2 := by
  have hmk := run_make_bytes n hn
  have i0 : ¬ ((n : Int) < 1) := by omega
  have i1 : ¬ ((n : Int) > 64) := by omega
  have i2 : (0 : Int) ≤ (n : Int) * 32 := by omega
  have i3 : (n : Int) * 32 ≤ 3000 := by omega
  have HB := Lib.hid (Blk.new w 5 (grid n zero2))
  have HL : Hid ((grid n zero2).length = n * 32) := grid_len _ _
  generalize grid n zero2 = G at *
  go_enter Try.func36, Try.ntmps36
  go_wp2
  go_ret
  refine ⟨rfl, ?_, ?_, ((Keep.refl _ w).alloc _).alloc _, by simp⟩
  · have := Blk.new (w.alloc (.cells G.toArray 5)) 120 [.slice (some ⟨w.heap.size, 0, none⟩) (n * 32) (n * 32)]
    rw [World.size_alloc] at this
    exact this
  · exact ⟨by rw [HL.out]; omega, .inr ⟨_, _, G.toArray, rfl, Nat.zero_le _, HB.out.alloc _, Nat.le_refl _, by unfold maxLen; omega, by simpa using HL.out, List.take_of_length_le (by simp [HL.out])⟩⟩
set_option maxRecDepth 100000 in
theorem rmemfork_any {w : World} (M n : Nat) (bv : Value) (G : List Value) (hM : Blk w M 120 [bv]) (hb : w.ownsRow 0 5 1 bv n G) (hG : ∀ u ∈ G, u.oneCell' = true) (hn : n ≤ 3000) :
    Calls Try.prog 33 #[.pointer (some ⟨M, 0, none⟩)] w fun e w' => ∃ M' bv', e = .returned (.pointer (some ⟨M', 0, none⟩)) ∧ Blk w' M' 120 [bv'] ∧ w'.ownsRow w.heap.size 5 1 bv' n G ∧ w.heap.size ≤ M' ∧ Keep none_ w w' := by
  obtain ⟨i0, hi0, hz0, hz1, hz2⟩ := info_parts info5
  obtain ⟨A, cap, rfl, _, _⟩ := own_form hb
  have c0 := hM.cell_of (i := 0) rfl
  have HH : Hid (Holds (w.alloc (.cells #[] 5)) A n 1 G) := (Holds.of_own hb).keep (G := none_) ((Keep.refl _ w).alloc _) (fun _ _ => id)
  have HO : Hid ((w.alloc (.cells #[] 5)).ownsRow w.heap.size 5 1 (.slice (some ⟨w.heap.size, 0, none⟩) 0 0) 0 []) := World.ownsRow_made (e := 5) (size := 1) (base := w.heap.size) w #[] 0 (Nat.le_refl _) (by decide) rfl
  have HB := Lib.hid hG
  clear hM hb hG
  go_enter Try.func33, Try.ntmps33
  go_wp2_with (at_builtin; refine wpList_append_gen rfl _ _ 35 rfl w.heap.size 5 i0 (.int .u8 0) 1 1 Try.underlying35 hi0 hz0 hz1 hz2 rfl (by decide) (.slice (some ⟨w.heap.size, 0, none⟩) 0 0) 0 [] rfl HO.out A n cap G rfl HH.out HB.out (by unfold maxLen; omega) (by omega) (by simp) ?_; intro v' w' hown hg hob; obtain ⟨A', c', rfl, _, _⟩ := own_form hown; have HW : Hid (w'.ownsRow w.heap.size 5 1 (.slice A' (0 + n) c') (0 + n) G) := (by have := hown; rw [List.nil_append] at this; exact this); rw [Nat.zero_add] at HW ⊢; have HK : Hid (Keep none_ w w') := ((Keep.refl none_ w).alloc _).thenF (Keep.of_grown hg) (fun x hx => .inr (by injection hx with hx; exact Nat.le_of_eq hx)); clear hown hg hob)
  have HS := Lib.hid HK.out.size
  go_ret
  exact ⟨_, _, rfl, Blk.new w' 120 [_], HW.out.alloc _, HS.out, HK.out.trans ((Keep.refl _ w').alloc _)⟩
end Go.Proofs.Ytjlenocmfeggdaa
