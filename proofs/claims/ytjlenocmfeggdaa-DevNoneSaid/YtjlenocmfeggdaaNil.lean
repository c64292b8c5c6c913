/- What the program answers where there is no disk. -/
import Derived.Test.YtjlenocmfeggdaaLive
import Derived.Laws.ResultCell
namespace Go.Proofs.Ytjlenocmfeggdaa
open Go.RowKit
attribute [local go_sem] cell_alloc_some frozen_alloc_some
section
variable (w : World)
theorem wait_nil : Calls Try.prog 14 #[.pointer none] w fun e w' => e = .returned (.slice none 0 0) ∧ Keep none_ w w' := by
  go_enter Try.func14, Try.ntmps14
  go_wp2
  go_ret
  exact ⟨rfl, Keep.refl _ _⟩
theorem drop_nil (o : Int) : Calls Try.prog 15 #[.pointer none, .int .u8 o] w fun e w' => e = .returned (.slice none 0 0) ∧ Keep none_ w w' := by
  have hk : Keep none_ w (w.alloc (.cells #[.int .u8 o] 5)) := (Keep.refl _ w).alloc _
  go_enter Try.func15, Try.ntmps15
  go_wp2
  go_ret
  exact ⟨rfl, hk⟩
theorem cancel_nil (o : Int) : Calls Try.prog 19 #[.pointer none, .int .i64 o] w fun e w' => e = .returned (.slice none 0 0) ∧ Keep none_ w w' := by
  have hk : Keep none_ w (w.alloc (.cells #[.int .i64 o] 3)) := (Keep.refl _ w).alloc _
  go_enter Try.func19, Try.ntmps19
  go_wp2
  go_ret
  exact ⟨rfl, hk⟩
theorem ask_nil (r : Req) : Calls Try.prog 16 #[.pointer none, .agg (reqc r).toArray] w fun e w' => e = .returned (.tuple #[.int .u32 0, .int .i64 1]) ∧ Keep none_ w w' := by
  have hk : Keep none_ w (w.alloc (.cells (reqc r).toArray 44)) := (Keep.refl _ w).alloc _
  unfold reqc at hk ⊢
  go_enter Try.func16, Try.ntmps16
  go_wp2
  go_ret2
  exact ⟨rfl, hk⟩
theorem sector_nil (i : Int) : Calls Try.prog 18 #[.pointer none, .int .i64 i] w fun e w' => e = .returned (.tuple #[.slice none 0 0, .int .i64 1]) ∧ Keep none_ w w' := by
  go_enter Try.func18, Try.ntmps18
  go_wp2
  go_ret2
  exact ⟨rfl, Keep.refl _ _⟩
theorem set_nil (i : Int) (u : Value) : Calls Try.prog 23 #[.pointer none, .int .i64 i, u] w fun e w' => e = .returned (.int .i64 1) ∧ Keep none_ w w' := by
  go_enter Try.func23, Try.ntmps23
  go_wp2
  go_ret
  exact ⟨rfl, Keep.refl _ _⟩
theorem size_nil : Calls Try.prog 29 #[.pointer none] w fun e w' => e = .returned (.int .i64 0) ∧ Keep none_ w w' := by
  go_enter Try.func29, Try.ntmps29
  go_wp2
  go_ret
  exact ⟨rfl, Keep.refl _ _⟩
theorem fork_nil : Calls Try.prog 30 #[.pointer none] w fun e w' => e = .returned (.pointer none) ∧ Keep none_ w w' := by
  go_enter Try.func30, Try.ntmps30
  go_wp2
  go_ret
  exact ⟨rfl, Keep.refl _ _⟩
theorem boxed44 {W : World} {q0 q1 q2 q3 q4 : Value} {W' : World} (p0 p1 p2 p3 p4 : Value)
    (hW : W' = (((((W.alloc (.cells #[p0, p1, p2, p3, p4] 44)).setCell ⟨W.heap.size, 0, none⟩ q0).setCell ⟨W.heap.size, 1, none⟩ q1).setCell ⟨W.heap.size, 2, none⟩ q2).setCell ⟨W.heap.size, 3, none⟩ q3).setCell ⟨W.heap.size, 4, none⟩ q4) : Blk W' W.heap.size 44 [q0, q1, q2, q3, q4] ∧ Keep none_ W W' := by
  subst hW
  have hk : Keep none_ W (W.alloc (.cells #[p0, p1, p2, p3, p4] 44)) := (Keep.refl _ W).alloc _
  refine ⟨(((((Blk.new W 44 [p0, p1, p2, p3, p4]).set_ 0 q0).set_ 1 q1).set_ 2 q2).set_ 3 q3).set_ 4 q4, ?_⟩
  exact Keep.setCell (S := none_) (p := ⟨W.heap.size, 4, none⟩) (Keep.setCell (S := none_) (p := ⟨W.heap.size, 3, none⟩) (Keep.setCell (S := none_) (p := ⟨W.heap.size, 2, none⟩) (Keep.setCell (S := none_) (p := ⟨W.heap.size, 1, none⟩) (Keep.setCell (S := none_) (p := ⟨W.heap.size, 0, none⟩) hk (.inr (Nat.le_refl _)) _) (.inr (Nat.le_refl _)) _) (.inr (Nat.le_refl _)) _) (.inr (Nat.le_refl _)) _) (.inr (Nat.le_refl _)) _
theorem deliver_nil (A B : Option Addr) (i : Int) (h : A = none ∨ B = none) : Calls Try.prog 17 #[.pointer A, .int .i64 i, .pointer B] w fun e w' => e = .returned (.tuple #[.agg (reqc zeroR).toArray, .int .i64 1]) ∧ Keep none_ w w' := by
  have hk : Keep none_ w (w.alloc (.cells (reqc zeroR).toArray 44)) := (Keep.refl _ w).alloc _
  have hb := Blk.new w 44 (reqc zeroR)
  unfold reqc zeroR at hk hb ⊢
  have b0 := hb.cell_of (i := 0) rfl
  have b1 := hb.cell_of (i := 1) rfl
  have b2 := hb.cell_of (i := 2) rfl
  have b3 := hb.cell_of (i := 3) rfl
  have b4 := hb.cell_of (i := 4) rfl
  clear hb
  by_cases hA : A = none
  · subst hA
    go_enter Try.func17, Try.ntmps17
    go_wp2
    refine bodyPost_ret (v := .tuple #[.agg #[.int .u32 0, .bool false, .int .i64 0, .int .i64 0, .int .u8 0], .int .i64 1]) ?_ rfl ⟨rfl, hk⟩
    rw [results_cell_tmp rfl]
    go_simp
  · have hB : B = none := h.resolve_left hA
    subst hB
    obtain ⟨a, rfl⟩ := Option.ne_none_iff_exists'.1 hA
    go_enter Try.func17, Try.ntmps17
    go_wp2
    refine bodyPost_ret (v := .tuple #[.agg #[.int .u32 0, .bool false, .int .i64 0, .int .i64 0, .int .u8 0], .int .i64 1]) ?_ rfl ⟨rfl, hk⟩
    rw [results_cell_tmp rfl]
    go_simp
end
end Go.Proofs.Ytjlenocmfeggdaa
