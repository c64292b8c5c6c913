/- What each function says of no table; the law FdsNone. -/
import Derived.Test.YtdiginkpclbmdaaLive
namespace Go.Proofs.Ytdiginkpclbmdaa
open Go.RowKit
attribute [local go_sem] cell_alloc_some frozen_alloc_some
section
variable (w : World)
theorem nil_of (p : Int) : Calls Try.prog 28 #[.pointer none, .int .i64 p] w fun e w' => e = .returned (.tuple #[.pointer none, .int .i64 1]) ∧ w = w' := by
  go_enter Try.func28, Try.ntmps28
  go_wp2
  go_ret2
  exact ⟨rfl, rfl⟩
theorem nil_fresh (p : Int) : Calls Try.prog 27 #[.pointer none, .int .i64 p] w fun e w' => e = .returned (.int .i64 1) ∧ w = w' := by
  go_enter Try.func27, Try.ntmps27
  go_wp2
  go_ret
  exact ⟨rfl, rfl⟩
theorem nil_at (p k : Int) : Calls Try.prog 31 #[.pointer none, .int .i64 p, .int .i64 k] w fun e w' => e = .returned (.tuple #[.pointer none, .pointer none, .int .i64 1]) ∧ w = w' := by
  have H := Lib.hid (nil_of w p)
  go_enter Try.func31, Try.ntmps31
  go_wp2_with fail
  refine H.out.mono ?_
  rintro e w' ⟨rfl, rfl⟩
  go_wp2
  go_ret3
  exact ⟨rfl, rfl⟩
theorem nil_begin (p : Int) : Calls Try.prog 11 #[.pointer none, .int .i64 p] w fun e w' => e = .returned (.int .i64 1) ∧ Keep none_ w w' := by
  have H := Lib.hid (nil_fresh w p)
  go_enter Try.func11, Try.ntmps11
  go_wp2_with fail
  refine H.out.mono ?_
  rintro e w' ⟨rfl, rfl⟩
  go_wp2
  go_ret
  exact ⟨rfl, Keep.refl _ _⟩
theorem nil_end (p : Int) : Calls Try.prog 12 #[.pointer none, .int .i64 p] w fun e w' => e = .returned (.tuple #[.slice none 0 0, .int .i64 1]) ∧ Keep none_ w w' := by
  have H := Lib.hid (nil_of w p)
  go_enter Try.func12, Try.ntmps12
  go_wp2_with fail
  refine H.out.mono ?_
  rintro e w' ⟨rfl, rfl⟩
  go_wp2
  go_ret2
  exact ⟨rfl, Keep.refl _ _⟩
theorem nil_fork (p q : Int) : Calls Try.prog 13 #[.pointer none, .int .i64 p, .int .i64 q] w fun e w' => e = .returned (.int .i64 1) ∧ Keep none_ w w' := by
  have H := Lib.hid (nil_of w p)
  go_enter Try.func13, Try.ntmps13
  go_wp2_with fail
  refine H.out.mono ?_
  rintro e w' ⟨rfl, rfl⟩
  go_wp2
  go_ret
  exact ⟨rfl, Keep.refl _ _⟩
theorem nil_open (p : Int) (o : Op3) : Calls Try.prog 14 #[.pointer none, .int .i64 p, opv o] w fun e w' => e = .returned (.tuple #[.int .i64 0, .int .i64 1]) ∧ Keep none_ w w' := by
  have H := Lib.hid (nil_of (w.alloc (.cells #[.int .u8 o.kind, .int .i64 o.ref, .int .i64 o.pos] 30)) p)
  unfold opv
  go_enter Try.func14, Try.ntmps14
  go_wp2_with fail
  refine H.out.mono ?_
  rintro e w' ⟨rfl, rfl⟩
  go_wp2
  go_ret2
  exact ⟨rfl, (Keep.refl _ _).alloc _⟩
theorem nil_dup (p k : Int) : Calls Try.prog 15 #[.pointer none, .int .i64 p, .int .i64 k] w fun e w' => e = .returned (.tuple #[.int .i64 0, .int .i64 1]) ∧ Keep none_ w w' := by
  have H := Lib.hid (nil_at w p k)
  go_enter Try.func15, Try.ntmps15
  go_wp2_with fail
  refine H.out.mono ?_
  rintro e w' ⟨rfl, rfl⟩
  go_wp2
  go_ret2
  exact ⟨rfl, Keep.refl _ _⟩
theorem nil_close (p k : Int) : Calls Try.prog 16 #[.pointer none, .int .i64 p, .int .i64 k] w fun e w' => e = .returned (.tuple #[opv zero3, .bool false, .int .i64 1]) ∧ Keep none_ w w' := by
  have H := Lib.hid (nil_at (w.alloc (.cells #[.int .u8 0, .int .i64 0, .int .i64 0] 30)) p k)
  go_enter Try.func16, Try.ntmps16
  go_wp2_with fail
  refine H.out.mono ?_
  rintro e w' ⟨rfl, rfl⟩
  go_wp2
  exact bodyPost_ret (v := .tuple #[opv zero3, .bool false, .int .i64 1]) (by simp [results, Try.results16, go_sem, opv, zero3]) rfl ⟨rfl, (Keep.refl _ w).alloc _⟩
theorem nil_get (p k : Int) : Calls Try.prog 18 #[.pointer none, .int .i64 p, .int .i64 k] w fun e w' => e = .returned (.tuple #[opv zero3, .int .i64 1]) ∧ Keep none_ w w' := by
  have H := Lib.hid (nil_at (w.alloc (.cells #[.int .u8 0, .int .i64 0, .int .i64 0] 30)) p k)
  go_enter Try.func18, Try.ntmps18
  go_wp2_with fail
  refine H.out.mono ?_
  rintro e w' ⟨rfl, rfl⟩
  go_wp2
  exact bodyPost_ret (v := .tuple #[opv zero3, .int .i64 1]) (by simp [results, Try.results18, go_sem, opv, zero3]) rfl ⟨rfl, (Keep.refl _ w).alloc _⟩
theorem nil_same (p k q j : Int) : Calls Try.prog 19 #[.pointer none, .int .i64 p, .int .i64 k, .int .i64 q, .int .i64 j] w fun e w' => e = .returned (.bool false) ∧ Keep none_ w w' := by
  have H := Lib.hid (nil_at w p k)
  have H2 := Lib.hid (nil_at w q j)
  go_enter Try.func19, Try.ntmps19
  go_wp2_with fail
  refine H.out.mono ?_
  rintro e w' ⟨rfl, rfl⟩
  go_wp2_with fail
  refine H2.out.mono ?_
  rintro e w' ⟨rfl, rfl⟩
  go_wp2
  go_ret
  exact ⟨rfl, Keep.refl _ _⟩
theorem nil_move (p k pos : Int) : Calls Try.prog 20 #[.pointer none, .int .i64 p, .int .i64 k, .int .i64 pos] w fun e w' => e = .returned (.int .i64 1) ∧ Keep none_ w w' := by
  have H := Lib.hid (nil_at w p k)
  go_enter Try.func20, Try.ntmps20
  go_wp2_with fail
  refine H.out.mono ?_
  rintro e w' ⟨rfl, rfl⟩
  go_wp2
  go_ret
  exact ⟨rfl, Keep.refl _ _⟩
theorem nil_list (p : Int) : Calls Try.prog 21 #[.pointer none, .int .i64 p] w fun e w' => e = .returned (.slice none 0 0) ∧ Keep none_ w w' := by
  have H := Lib.hid (nil_of w p)
  go_enter Try.func21, Try.ntmps21
  go_wp2_with fail
  refine H.out.mono ?_
  rintro e w' ⟨rfl, rfl⟩
  go_wp2
  go_ret
  exact ⟨rfl, Keep.refl _ _⟩
theorem nil_room (p : Int) : Calls Try.prog 22 #[.pointer none, .int .i64 p] w fun e w' => e = .returned (.int .i64 0) ∧ Keep none_ w w' := by
  have H := Lib.hid (nil_of w p)
  go_enter Try.func22, Try.ntmps22
  go_wp2_with fail
  refine H.out.mono ?_
  rintro e w' ⟨rfl, rfl⟩
  go_wp2
  go_ret
  exact ⟨rfl, Keep.refl _ _⟩
theorem nil_copy : Calls Try.prog 24 #[.pointer none] w fun e w' => e = .returned (.pointer none) ∧ Keep none_ w w' := by
  go_enter Try.func24, Try.ntmps24
  go_wp2
  go_ret
  exact ⟨rfl, Keep.refl _ _⟩
end
end Go.Proofs.Ytdiginkpclbmdaa
