/- The walks of the functions of proc that TopFamily calls: at, Parent, State, runs, New, Fork, Running. -/
import Derived.Test.YtjibbdnmobaeiaaWords
import Derived.BigQuiet
namespace Go.Proofs.Ytjibbdnmobaeiaa
open Go.RowKit
set_option maxHeartbeats 400000 in
theorem at_in (t : Nat) (i : Nat) (v : Value) (w : World) (h : i < 6) (hc : w.cell? ⟨t, i, none⟩ = some v) :
    Calls Try.prog 12 #[.pointer (some ⟨t, 0, none⟩), .int .i64 i] w fun e w' => e = .returned v ∧ w = w' := by
  have h0 : ¬ ((i : Int) < 0) := by omega
  have h1 : ¬ ((i : Int) ≥ 6) := by omega
  go_enter Try.func12, Try.ntmps12
  go_wp2
  go_ret
  exact ⟨rfl, rfl⟩
theorem ty34_39 (s : PS) (w : World) : (Instr.typeAssert s.enc 34 39 true).run Try.prog w = .ok (.tuple #[match s with | .living p => .agg #[.int .i64 p] | _ => .agg #[.int .i64 0], .bool (match s with | .living _ => true | _ => false)]) w := by
  cases s <;> kernel_rfl
theorem ty34_43 (s : PS) (w : World) : (Instr.typeAssert s.enc 34 43 true).run Try.prog w = .ok (.tuple #[match s with | .ended p s => .agg #[.int .i64 p, .int .i64 s] | _ => .agg #[.int .i64 0, .int .i64 0], .bool (match s with | .ended _ _ => true | _ => false)]) w := by
  cases s <;> kernel_rfl
set_option maxHeartbeats 400000 in
theorem parent_in (t : Nat) (i : Nat) (s : PS) (w : World) (h : i < 6) (hc : w.cell? ⟨t, i, none⟩ = some s.enc) :
    Calls Try.prog 14 #[.pointer (some ⟨t, 0, none⟩), .int .i64 i] w fun e w' => e = .returned (.int .i64 s.parent) ∧ Below w.heap.size w w' := by
  cases s with
  | no =>
    have e1 := ty34_39 .no
    have e2 := ty34_43 .no
    go_enter Try.func14, Try.ntmps14
    go_wp2_with (go_at_call 12; refine (at_in _ _ _ _ h hc).mono ?_; rintro e w' ⟨rfl, rfl⟩)
    go_ret
    exact ⟨rfl, Below.refl _ _⟩
  | living p =>
    have e1 := ty34_39 (.living p)
    go_enter Try.func14, Try.ntmps14
    go_wp2_with (go_at_call 12; refine (at_in _ _ _ _ h hc).mono ?_; rintro e w' ⟨rfl, rfl⟩)
    go_ret
    exact ⟨rfl, (Below.refl _ _).alloc (Nat.le_refl _) _⟩
  | ended p s =>
    have e1 := ty34_39 (.ended p s)
    have e2 := ty34_43 (.ended p s)
    go_enter Try.func14, Try.ntmps14
    go_wp2_with (go_at_call 12; refine (at_in _ _ _ _ h hc).mono ?_; rintro e w' ⟨rfl, rfl⟩)
    go_ret
    exact ⟨rfl, (Below.refl _ _).alloc (Nat.le_refl _) _⟩
set_option maxHeartbeats 400000 in
theorem state_in (t : Nat) (i : Nat) (s : PS) (w : World) (h : i < 6) (hc : w.cell? ⟨t, i, none⟩ = some s.enc) :
    Calls Try.prog 11 #[.pointer (some ⟨t, 0, none⟩), .int .i64 i] w fun e w' => e = .returned (.int .u8 s.state) ∧ w = w' := by
  cases s with
  | no =>
    have e1 := ty34_39 .no
    have e2 := ty34_43 .no
    go_enter Try.func11, Try.ntmps11
    go_wp2_with (go_at_call 12; refine (at_in _ _ _ _ h hc).mono ?_; rintro e w' ⟨rfl, rfl⟩)
    go_ret
    exact ⟨rfl, rfl⟩
  | living p =>
    have e1 := ty34_39 (.living p)
    go_enter Try.func11, Try.ntmps11
    go_wp2_with (go_at_call 12; refine (at_in _ _ _ _ h hc).mono ?_; rintro e w' ⟨rfl, rfl⟩)
    go_ret
    exact ⟨rfl, rfl⟩
  | ended p s =>
    have e1 := ty34_39 (.ended p s)
    have e2 := ty34_43 (.ended p s)
    go_enter Try.func11, Try.ntmps11
    go_wp2_with (go_at_call 12; refine (at_in _ _ _ _ h hc).mono ?_; rintro e w' ⟨rfl, rfl⟩)
    go_ret
    exact ⟨rfl, rfl⟩
set_option maxHeartbeats 400000 in
theorem runs_in (t : Nat) (i : Nat) (p : Int) (w : World) (h : i < 6) (hc : w.cell? ⟨t, i, none⟩ = some (PS.living p).enc) :
    Calls Try.prog 9 #[.pointer (some ⟨t, 0, none⟩), .int .i64 i] w fun e w' => e = .returned (.tuple #[.agg #[.int .i64 p], .int .i64 0]) ∧ Below w.heap.size w w' := by
  have e1 := ty34_39 (.living p)
  have hlt := World.block_lt_of_cell? w _ hc
  have hc' : (w.alloc (.cells #[.int .i64 0] 39)).cell? ⟨t, i, none⟩ = some (PS.living p).enc := by rw [World.cell?_alloc_lt _ _ _ hlt]; exact hc
  go_enter Try.func9, Try.ntmps9
  go_wp2_with (go_at_call 12; refine (at_in _ _ _ _ h hc').mono ?_; rintro e w' ⟨rfl, rfl⟩)
  exact bodyPost_ret (v := .tuple #[.agg #[.int .i64 p], .int .i64 0]) (by simp [results, Try.results9, go_sem]) rfl ⟨rfl, by
    exact ((Below.refl _ _).alloc (Nat.le_refl _) _).alloc (by simp) _⟩
set_option maxHeartbeats 400000 in
theorem new_in (w : World) :
    Calls Try.prog 4 #[] w fun e w' => e = .returned (.pointer (some ⟨w.heap.size, 0, none⟩)) ∧ w' = w.alloc (.cells #[(PS.living 0).enc, .nilIface, .nilIface, .nilIface, .nilIface, .nilIface] 37) := by
  go_enter Try.func4, Try.ntmps4
  go_wp2
  go_ret
  exact ⟨rfl, rfl⟩
theorem idx35 (c : Nat → PS) (k : Nat) (hk : k < 6) (w : World) : (Instr.index 35 (.agg #[(c 0).enc, (c 1).enc, (c 2).enc, (c 3).enc, (c 4).enc, (c 5).enc]) (.int .i64 k)).run Try.prog w = .ok (c k).enc w := by
  rcases (by omega : k = 0 ∨ k = 1 ∨ k = 2 ∨ k = 3 ∨ k = 4 ∨ k = 5) with rfl | rfl | rfl | rfl | rfl | rfl <;> kernel_rfl
theorem eqg34 (s : PS) (w : World) : (eqGuard .eql 34 (.tmp 27) (.const .nilIface) s.enc .nilIface).run Try.prog w = .ok () w := by
  cases s <;> kernel_rfl
theorem eql34 (s : PS) (b : Bool) (h : (match s with | .no => true | _ => false) = b) (w : World) : (binOp .eql 34 s.enc .nilIface).run Try.prog w = .ok (.bool b) w := by
  cases h; cases s <;> kernel_rfl
set_option maxHeartbeats 400000 in
theorem fork_in (t : Nat) (p : Int) (i : Nat) (c : Nat → PS) (w : World) (hi : i < 6) (ht : Tab w t c)
    (h0 : c 0 = .living p) (hn : c i = .no) (hl : ∀ j, j < i → c j ≠ .no) :
    Calls Try.prog 5 #[.pointer (some ⟨t, 0, none⟩), .int .i64 0] w fun e w' => e = .returned (.tuple #[.int .i64 i, .int .i64 0]) ∧
      Tab w' t (upd c i (.living 0)) ∧ Keep (· = t) w w' := by
  have h00 : w.cell? ⟨t, 0, none⟩ = some (PS.living p).enc := by rw [ht.cell (by decide), ← h0]
  have HT := Lib.hid ht; have H0 := Lib.hid h0; have HN := Lib.hid hn; have HL := Lib.hid hl; clear h0 hn hl ht
  have hlt := HT.out.lt
  go_enter Try.func5, Try.ntmps5
  go_wp2_with fail
  refine (runs_in t 0 p _ (by decide) h00).mono ?_
  rintro e w' ⟨rfl, hb⟩
  have ht1 : Tab (w'.alloc (.cells #[.int .i64 p] 39)) t c := (HT.out.below hb hlt).alloc (.cells #[.int .i64 p] 39)
  have e0 := ht1.cell (k := 0) (by decide)
  have e1 := ht1.cell (k := 1) (by decide)
  have e2 := ht1.cell (k := 2) (by decide)
  have e3 := ht1.cell (k := 3) (by decide)
  have e4 := ht1.cell (k := 4) (by decide)
  have e5 := ht1.cell (k := 5) (by decide)
  have HT1 := Lib.hid ht1; clear ht1
  go_wp2
  go_loop [23] (fun v => ∃ k : Nat, k ≤ i ∧ v = .int .i64 k) (fun v => i - (intOf v).toNat)
  case atStart => exact ⟨0, by omega, rfl⟩
  case round =>
    obtain ⟨k, hk, rfl⟩ := hrel
    have hix := idx35 c k (by omega)
    have heg := eqg34 (c k)
    by_cases hki : k < i
    · have heq := eql34 (c k) false (by have := HL.out k hki; cases h : c k <;> simp_all)
      go_wp2
      go_round
      case rel => exact ⟨k + 1, by omega, by go_num⟩
      case measure => simp [intOf]; omega
    · obtain rfl : k = i := by omega
      have heq := eql34 (c k) true (by rw [HN.out])
      have hfz := HT1.out.frozen k
      have hck := HT1.out.cell hi
      go_wp2
      go_ret2
      exact ⟨rfl, HT1.out.set_ hi (.living 0), Keep.setCell (S := (· = t)) ((Keep.of_below hb).alloc _) (.inl rfl) _⟩
end Go.Proofs.Ytjibbdnmobaeiaa
