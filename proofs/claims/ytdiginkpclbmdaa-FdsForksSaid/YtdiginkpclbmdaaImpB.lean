/- The walks of the table's own readers: fresh, at. -/
import Derived.Test.YtdiginkpclbmdaaImpA
namespace Go.Proofs.Ytdiginkpclbmdaa
open Go.RowKit
theorem freshE_cases (S : St) (p : Int) : (freshE S p = 2 ∧ (p < 0 ∨ 6 ≤ p)) ∨ (∃ q : Nat, p = q ∧ q < 6 ∧ S.has q = true ∧ freshE S p = 6) ∨ (∃ q : Nat, p = q ∧ q < 6 ∧ S.has q = false ∧ freshE S p = 0) := by
  unfold freshE
  by_cases h : p < 0 ∨ 6 ≤ p
  · rw [if_pos h]; exact .inl ⟨rfl, h⟩
  · rw [if_neg h]
    refine .inr ?_
    cases hh : S.has p.toNat
    · exact .inr ⟨p.toNat, by omega, by omega, hh, by simp⟩
    · exact .inl ⟨p.toNat, by omega, by omega, hh, by simp⟩
theorem atE_cases (S : St) (p k : Int) : (atE S p k = 5 ∧ mayE S p = 5) ∨ (∃ q : Nat, p = q ∧ q < 6 ∧ S.has q = true ∧ mayE S p = 0 ∧
    ((atE S p k = 3 ∧ (k < 0 ∨ 8 ≤ k ∨ ∃ j : Nat, k = j ∧ j < 8 ∧ S.fd q j = 0)) ∨ (atE S p k = 0 ∧ ∃ j : Nat, k = j ∧ j < 8 ∧ S.fd q j ≠ 0))) := by
  unfold atE
  rcases mayE_cases S p with ⟨h, _⟩ | ⟨h, q, rfl, hq, hh⟩
  · rw [if_pos h]; exact .inl ⟨rfl, h⟩
  · rw [if_neg (by rw [h]; decide)]
    refine .inr ⟨q, rfl, hq, hh, h, ?_⟩
    by_cases h1 : k < 0 ∨ 8 ≤ k ∨ S.fd (q : Int).toNat k.toNat = 0
    · rw [if_pos h1]
      refine .inl ⟨rfl, ?_⟩
      rcases h1 with h1 | h1 | h1
      · exact .inl h1
      · exact .inr (.inl h1)
      · by_cases h2 : k < 0
        · exact .inl h2
        · by_cases h3 : 8 ≤ k
          · exact .inr (.inl h3)
          · exact .inr (.inr ⟨k.toNat, by omega, by omega, by simpa using h1⟩)
    · rw [if_neg h1]
      exact .inr ⟨rfl, k.toNat, by omega, by omega, fun e => h1 (.inr (.inr (by simpa using e)))⟩
section
variable {w : World} {T : Nat} {S : St} {pb sb : Nat → Nat} {F : Nat → Prop}
set_option maxHeartbeats 400000 in
theorem fresh_any (h : RepT w T S pb sb F) (p : Int) :
    Calls Try.prog 27 #[.pointer (some ⟨T, 0, none⟩), .int .i64 p] w fun e w' => e = .returned (.int .i64 (freshE S p)) ∧ w = w' := by
  rcases freshE_cases S p with ⟨he, h1 | h1⟩ | ⟨q, rfl, hq, hh, he⟩ | ⟨q, rfl, hq, hh, he⟩
  · rw [he]; clear he h
    go_enter Try.func27, Try.ntmps27
    go_wp2
    go_ret
    exact ⟨rfl, rfl⟩
  · rw [he]; clear he h
    go_enter Try.func27, Try.ntmps27
    go_wp2
    go_ret
    exact ⟨rfl, rfl⟩
  · rw [he]
    have hc := h.cellT hq
    rw [tcell_some hh] at hc
    clear he h hh
    have h0 : ¬ ((q : Int) < 0) := by omega
    have h1 : ¬ ((q : Int) ≥ 6) := by omega
    go_enter Try.func27, Try.ntmps27
    go_wp2
    go_ret
    exact ⟨rfl, rfl⟩
  · rw [he]
    have hc := h.cellT hq
    rw [tcell_none hh] at hc
    clear he h hh
    have h0 : ¬ ((q : Int) < 0) := by omega
    have h1 : ¬ ((q : Int) ≥ 6) := by omega
    go_enter Try.func27, Try.ntmps27
    go_wp2
    go_ret
    exact ⟨rfl, rfl⟩
set_option maxHeartbeats 400000 in
theorem at_err (h : RepT w T S pb sb F) (p k : Int) (he : atE S p k ≠ 0) :
    Calls Try.prog 31 #[.pointer (some ⟨T, 0, none⟩), .int .i64 p, .int .i64 k] w fun e w' => e = .returned (.tuple #[.pointer none, .pointer none, .int .i64 (atE S p k)]) ∧ w = w' := by
  rcases atE_cases S p k with ⟨he, hm⟩ | ⟨q, rfl, hq, hh, hm, ⟨he, h1⟩ | ⟨h0, _⟩⟩
  · rw [he]; clear he
    go_enter Try.func31, Try.ntmps31
    go_wp2_with fail
    refine (of_err h p hm).mono ?_
    rintro e w' ⟨rfl, rfl⟩
    clear h
    go_wp2
    go_ret3
    exact ⟨rfl, rfl⟩
  · rw [he]; clear he
    rcases h1 with h1 | h1 | ⟨j, rfl, hj, hz⟩
    · go_enter Try.func31, Try.ntmps31
      go_wp2_with fail
      refine (of_ok h q hq hh).mono ?_
      rintro e w' ⟨rfl, rfl⟩
      clear h hh hm
      go_wp2
      go_ret3
      exact ⟨rfl, rfl⟩
    · have h2 : ¬ (k < 0) := by omega
      go_enter Try.func31, Try.ntmps31
      go_wp2_with fail
      refine (of_ok h q hq hh).mono ?_
      rintro e w' ⟨rfl, rfl⟩
      clear h hh hm
      go_wp2
      go_ret3
      exact ⟨rfl, rfl⟩
    · have hc := h.cellP hq hh hj
      rw [pcell_none hz] at hc
      have h2 : ¬ ((j : Int) < 0) := by omega
      have h3 : ¬ ((j : Int) ≥ 8) := by omega
      go_enter Try.func31, Try.ntmps31
      go_wp2_with fail
      refine (of_ok h q hq hh).mono ?_
      rintro e w' ⟨rfl, rfl⟩
      clear h hh hm hz
      go_wp2
      go_ret3
      exact ⟨rfl, rfl⟩
  · exact absurd h0 he
set_option maxHeartbeats 400000 in
theorem at_ok (h : RepT w T S pb sb F) (p k : Nat) (hp : p < 6) (hk : k < 8) (hh : S.has p = true) (hf : S.fd p k ≠ 0) :
    Calls Try.prog 31 #[.pointer (some ⟨T, 0, none⟩), .int .i64 p, .int .i64 k] w fun e w' => e = .returned (.tuple #[.pointer (some ⟨pb p, 0, none⟩), .pointer (some ⟨sb (S.fd p k), 0, none⟩), .int .i64 0]) ∧ ∃ n, w' = w.drewN n := by
  have hc := h.cellP hp hh hk
  rw [pcell_some hf] at hc
  have h2 : ¬ ((k : Int) < 0) := by omega
  have h3 : ¬ ((k : Int) ≥ 8) := by omega
  have h4 : (0 : Int) ≤ (k : Int) := by omega
  have h5 : (k : Int) < 8 := by omega
  go_enter Try.func31, Try.ntmps31
  go_wp2_with fail
  refine (of_ok h p hp hh).mono ?_
  rintro e w' ⟨rfl, rfl⟩
  clear h hh hf
  go_wp2
  go_quiet (fail)
  go_wp2
  go_ret3
  exact ⟨rfl, _, rfl⟩
end
end Go.Proofs.Ytdiginkpclbmdaa
