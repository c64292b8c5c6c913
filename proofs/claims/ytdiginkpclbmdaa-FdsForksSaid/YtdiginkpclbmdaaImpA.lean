/- The walks of the table's own readers: of, fresh, at, Index. -/
import Derived.Test.YtdiginkpclbmdaaReps
import Derived.Test.YtdiginkpclbmdaaChecked
import Derived.BigQuiet
import Derived.Deep.QuietTactic
namespace Go.Proofs.Ytdiginkpclbmdaa
open Go.RowKit
theorem mayE_cases (S : St) (p : Int) : (mayE S p = 5 ∧ (p < 0 ∨ 6 ≤ p ∨ ∃ q : Nat, p = q ∧ q < 6 ∧ S.has q = false)) ∨ (mayE S p = 0 ∧ ∃ q : Nat, p = q ∧ q < 6 ∧ S.has q = true) := by
  unfold mayE
  by_cases h : p < 0 ∨ 6 ≤ p ∨ S.has p.toNat = false
  · rw [if_pos h]
    refine .inl ⟨rfl, ?_⟩
    rcases h with h | h | h
    · exact .inl h
    · exact .inr (.inl h)
    · by_cases h1 : p < 0
      · exact .inl h1
      · by_cases h2 : 6 ≤ p
        · exact .inr (.inl h2)
        · exact .inr (.inr ⟨p.toNat, by omega, by omega, h⟩)
  · rw [if_neg h]
    refine .inr ⟨rfl, p.toNat, by omega, by omega, ?_⟩
    cases hh : S.has p.toNat
    · exact absurd (.inr (.inr hh)) h
    · rfl
section
variable {w : World} {T : Nat} {S : St} {pb sb : Nat → Nat} {F : Nat → Prop}
set_option maxHeartbeats 400000 in
theorem of_ok (h : RepT w T S pb sb F) (p : Nat) (hp : p < 6) (hh : S.has p = true) :
    Calls Try.prog 28 #[.pointer (some ⟨T, 0, none⟩), .int .i64 p] w fun e w' => e = .returned (.tuple #[.pointer (some ⟨pb p, 0, none⟩), .int .i64 0]) ∧ w = w' := by
  have hc := h.cellT hp
  rw [tcell_some hh] at hc
  clear h hh
  have h0 : ¬ ((p : Int) < 0) := by omega
  have h1 : ¬ ((p : Int) ≥ 6) := by omega
  go_enter Try.func28, Try.ntmps28
  go_wp2
  go_ret2
  exact ⟨rfl, rfl⟩
set_option maxHeartbeats 400000 in
theorem of_err (h : RepT w T S pb sb F) (p : Int) (hm : mayE S p = 5) :
    Calls Try.prog 28 #[.pointer (some ⟨T, 0, none⟩), .int .i64 p] w fun e w' => e = .returned (.tuple #[.pointer none, .int .i64 5]) ∧ w = w' := by
  rcases mayE_cases S p with ⟨_, h1 | h1 | ⟨q, rfl, hq, hh⟩⟩ | ⟨h0, _⟩
  · clear hm h
    go_enter Try.func28, Try.ntmps28
    go_wp2
    go_ret2
    exact ⟨rfl, rfl⟩
  · clear hm h
    go_enter Try.func28, Try.ntmps28
    go_wp2
    go_ret2
    exact ⟨rfl, rfl⟩
  · have hc := h.cellT hq
    rw [tcell_none hh] at hc
    clear hm h hh
    have h0 : ¬ ((q : Int) < 0) := by omega
    have h1 : ¬ ((q : Int) ≥ 6) := by omega
    go_enter Try.func28, Try.ntmps28
    go_wp2
    go_ret2
    exact ⟨rfl, rfl⟩
  · rw [hm] at h0; cases h0
end
end Go.Proofs.Ytdiginkpclbmdaa
