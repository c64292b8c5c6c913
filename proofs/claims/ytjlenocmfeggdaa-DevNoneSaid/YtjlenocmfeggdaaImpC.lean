/- The walks of New of a memory and of a disk. -/
import Derived.Test.YtjlenocmfeggdaaImpB
namespace Go.Proofs.Ytjlenocmfeggdaa
open Go.RowKit
attribute [local go_sem] cell_alloc_some frozen_alloc_some
def zero2 : Nat → Nat → UInt8 := fun _ _ => 0
theorem info115 : (Try.prog.info? 115).map (fun i => (i.zero, i.size, i.bytes)) = some (some (.agg (Array.replicate 32 (.int .u8 0))), 32, 32) := by kernel_rfl
theorem info98 : (Try.prog.info? 98).map (fun i => (i.zero, i.size, i.bytes)) = some (some (.agg (Array.replicate 32 (.int .u8 0))), 32, 32) := by kernel_rfl
theorem made_grid (n : Nat) : madeCells (Value.agg (Array.replicate 32 (.int .u8 0))).cells (n * 32) = (grid n zero2).toArray := by
  apply Array.toList_inj.1
  unfold madeCells grid row
  simp only [Array.toList_map, Array.toList_range, Value.cells, Array.size_replicate]
  refine List.map_congr_left fun k _ => ?_
  have : k % 32 < 32 := Nat.mod_lt _ (by decide)
  simp [this, byv, zero2]
theorem run_make_frames (n : Nat) (hn : n ≤ 64) (w : World) : (Instr.makeSlice 100 (.int .i64 (n : Int)) (.int .i64 (n : Int))).run Try.prog w = .ok (.slice (some ⟨w.heap.size, 0, none⟩) n n) (w.alloc (.cells (grid n zero2).toArray 115)) := by
  obtain ⟨i0, hi, hz0, hz1, hz2⟩ := info_parts info115
  have := run_make (P := Try.prog) w 100 115 i0 _ Try.underlying100 hi hz0 .i64 .i64 n n (by omega) (Int.le_refl _) (by rw [hz2]; omega) (by omega)
  rw [hz1] at this
  simpa only [Int.toNat_natCast, made_grid] using this
theorem run_make_sectors (n : Nat) (hn : n ≤ 64) (w : World) : (Instr.makeSlice 90 (.int .i64 (n : Int)) (.int .i64 (n : Int))).run Try.prog w = .ok (.slice (some ⟨w.heap.size, 0, none⟩) n n) (w.alloc (.cells (grid n zero2).toArray 98)) := by
  obtain ⟨i0, hi, hz0, hz1, hz2⟩ := info_parts info98
  have := run_make (P := Try.prog) w 90 98 i0 _ Try.underlying90 hi hz0 .i64 .i64 n n (by omega) (Int.le_refl _) (by rw [hz2]; omega) (by omega)
  rw [hz1] at this
  simpa only [Int.toNat_natCast, made_grid] using this
set_option maxRecDepth 100000 in
/-- a new memory -/
theorem newmem_ok (w : World) (n : Nat) (h0 : 0 < n) (hn : n ≤ 64) :
    Calls Try.prog 21 #[.int .i64 n] w fun e w' => e = .returned (.pointer (some ⟨w.heap.size + 1, 0, none⟩)) ∧ Blk w' (w.heap.size + 1) 102 [.slice (some ⟨w.heap.size, 0, none⟩) n n] ∧ Blk w' w.heap.size 115 (grid n zero2) ∧ Keep none_ w w' ∧ w'.heap.size = w.heap.size + 2 := by
  have hmk := run_make_frames n hn
  have i0 : ¬ ((n : Int) < 1) := by omega
  have i1 : ¬ ((n : Int) > 64) := by omega
  have HB := Lib.hid (Blk.new w 115 (grid n zero2))
  generalize grid n zero2 = G at *
  go_enter Try.func21, Try.ntmps21
  go_wp2
  go_ret
  refine ⟨rfl, ?_, HB.out.alloc _, ((Keep.refl _ w).alloc _).alloc _, by simp⟩
  have := Blk.new (w.alloc (.cells G.toArray 115)) 102 [.slice (some ⟨w.heap.size, 0, none⟩) n n]
  rw [World.size_alloc] at this
  exact this
set_option maxRecDepth 100000 in
/-- a new disk -/
theorem newdisk_ok (w : World) (n : Nat) (h0 : 0 < n) (hn : n ≤ 64) :
    Calls Try.prog 20 #[.int .i64 n] w fun e w' => e = .returned (.pointer (some ⟨w.heap.size + 1, 0, none⟩)) ∧ Blk w' (w.heap.size + 1) 92 [.slice none 0 0, .int .u32 0, .slice (some ⟨w.heap.size, 0, none⟩) n n] ∧ Blk w' w.heap.size 98 (grid n zero2) ∧ Keep none_ w w' ∧ w'.heap.size = w.heap.size + 2 := by
  have hmk := run_make_sectors n hn
  have i0 : ¬ ((n : Int) < 1) := by omega
  have i1 : ¬ ((n : Int) > 64) := by omega
  have HB := Lib.hid (Blk.new w 98 (grid n zero2))
  generalize grid n zero2 = G at *
  go_enter Try.func20, Try.ntmps20
  go_wp2
  go_ret
  refine ⟨rfl, ?_, HB.out.alloc _, ((Keep.refl _ w).alloc _).alloc _, by simp⟩
  have := Blk.new (w.alloc (.cells G.toArray 98)) 92 [.slice none 0 0, .int .u32 0, .slice (some ⟨w.heap.size, 0, none⟩) n n]
  rw [World.size_alloc] at this
  exact this
set_option maxRecDepth 100000 in
theorem newmem_no (w : World) (n : Int) (h : n < 1 ∨ 64 < n) : Calls Try.prog 21 #[.int .i64 n] w fun e w' => e = .returned (.pointer none) ∧ w = w' := by
  have HN := Lib.hid h
  clear h
  go_enter Try.func21, Try.ntmps21
  go_wp2
  all_goals first
    | (exfalso; have := HN.out; omega)
    | (go_ret; exact ⟨rfl, rfl⟩)
set_option maxRecDepth 100000 in
theorem newdisk_no (w : World) (n : Int) (h : n < 1 ∨ 64 < n) : Calls Try.prog 20 #[.int .i64 n] w fun e w' => e = .returned (.pointer none) ∧ w = w' := by
  have HN := Lib.hid h
  clear h
  go_enter Try.func20, Try.ntmps20
  go_wp2
  all_goals first
    | (exfalso; have := HN.out; omega)
    | (go_ret; exact ⟨rfl, rfl⟩)
end Go.Proofs.Ytjlenocmfeggdaa
