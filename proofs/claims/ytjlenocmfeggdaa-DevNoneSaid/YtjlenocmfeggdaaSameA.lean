/- The walk of same. -/
import Derived.Test.YtjlenocmfeggdaaPlayB
import Derived.Laws.IdiomStrings
namespace Go.Proofs.Ytjlenocmfeggdaa
open Go.RowKit
attribute [local go_sem] cell_alloc_some frozen_alloc_some
def secE (S : St) (i : Int) : Int := if i < 0 ∨ (S.ns : Int) ≤ i then 2 else 0
def secL (S : St) (i : Int) : List UInt8 := if i < 0 ∨ (S.ns : Int) ≤ i then [] else bytes32 (S.sec i.toNat)
def frE (S : St) (i : Int) : Int := if i < 0 ∨ (S.nf : Int) ≤ i then 2 else 0
def frL (S : St) (i : Int) : List UInt8 := if i < 0 ∨ (S.nf : Int) ≤ i then [] else bytes32 (S.fr i.toNat)
theorem bytes_own {w : World} {base : Nat} {u : Value} {l : List UInt8} {n : Nat} (h : w.ownsRow base 5 1 u n (l.map byv)) : Bytes w u l := by
  have hl : l.length = n := by have := h.1; rw [List.length_map] at this; omega
  subst hl
  obtain ⟨A, cap, rfl, h1, h2, h3⟩ := Slc.of_own h
  exact ⟨A, cap, rfl, Nat.le_trans h1 h2, h3⟩
theorem bytes_nil (w : World) : Bytes w (.slice none 0 0) [] := ⟨none, 0, rfl, Nat.zero_le _, .inl ⟨rfl, rfl, rfl⟩⟩
theorem conv {w : World} {u : Value} {l : List UInt8} (h : Bytes w u l) : (convert 35 9 u).run Try.prog w = .ok (.string ⟨l.toArray⟩) w := by
  obtain ⟨A, cap, rfl, hl, hh⟩ := h
  rcases hh with ⟨rfl, h0, h1⟩ | ⟨ad, rfl, _, hc⟩
  · have : l = [] := List.eq_nil_of_length_eq_zero h0
    subst this
    exact run_convert_bytes_nil w 35 5 Try.underlying35 Try.underlying5 _ _ 9 Try.underlying9
  · exact run_convert_bytes_back w 35 9 5 ad cap l Try.underlying35 Try.underlying5 Try.underlying9 (fun j hj => hc j _ (by rw [List.getElem?_map, List.getElem?_eq_getElem hj]; rfl))
section
variable {a w : World} {D M R Q : Nat} {S S2 : St} {G : Nat → Prop}
theorem Two.secT (h : Two a w D M R Q S S2 G) (i : Int) : Calls Try.prog 18 #[.pointer (some ⟨D, 0, none⟩), .int .i64 i] w fun e w' => (∃ u, e = .returned (.tuple #[u, .int .i64 (secE S i)]) ∧ Bytes w' u (secL S i)) ∧ Keep none_ w w' :=
  h.readT (P := fun e w' => ∃ u, e = .returned (.tuple #[u, .int .i64 (secE S i)]) ∧ Bytes w' u (secL S i)) (fun F v sb fb T h => by
    by_cases hi : i < 0 ∨ (S.ns : Int) ≤ i
    · have e1 : secE S i = 2 := by unfold secE; rw [if_pos hi]
      have e2 : secL S i = [] := by unfold secL; rw [if_pos hi]
      rw [e1, e2]
      refine (sector_err h i hi).mono ?_
      rintro e w' ⟨rfl, rfl⟩
      exact ⟨⟨_, rfl, bytes_nil _⟩, Keep.refl _ _⟩
    · have e1 : secE S i = 0 := by unfold secE; rw [if_neg hi]
      have e2 : secL S i = bytes32 (S.sec i.toNat) := by unfold secL; rw [if_neg hi]
      rw [e1, e2]
      obtain ⟨k, rfl⟩ := Int.eq_ofNat_of_zero_le (show 0 ≤ i by omega)
      refine (sector_ok h k (by omega)).mono ?_
      rintro e w' ⟨u, rfl, ho, hk⟩
      exact ⟨⟨u, rfl, bytes_own ho⟩, hk⟩)
theorem Two.secR (h : Two a w D M R Q S S2 G) (i : Int) : Calls Try.prog 53 #[.pointer (some ⟨R, 0, none⟩), .int .i64 i] w fun e w' => (∃ u, e = .returned (.tuple #[u, .int .i64 (secE S2 i)]) ∧ Bytes w' u (secL S2 i)) ∧ Keep none_ w w' :=
  h.readR (P := fun e w' => ∃ u, e = .returned (.tuple #[u, .int .i64 (secE S2 i)]) ∧ Bytes w' u (secL S2 i)) (fun V F v sv bv iv h => by
    by_cases hi : i < 0 ∨ (S2.ns : Int) ≤ i
    · have e1 : secE S2 i = 2 := by unfold secE; rw [if_pos hi]
      have e2 : secL S2 i = [] := by unfold secL; rw [if_pos hi]
      rw [e1, e2]
      refine (rsector_err h i hi).mono ?_
      rintro e w' ⟨rfl, rfl⟩
      exact ⟨⟨_, rfl, bytes_nil _⟩, Keep.refl _ _⟩
    · have e1 : secE S2 i = 0 := by unfold secE; rw [if_neg hi]
      have e2 : secL S2 i = bytes32 (S2.sec i.toNat) := by unfold secL; rw [if_neg hi]
      rw [e1, e2]
      obtain ⟨k, rfl⟩ := Int.eq_ofNat_of_zero_le (show 0 ≤ i by omega)
      refine (rsector_ok h k (by omega)).mono ?_
      rintro e w' ⟨u, rfl, ho, hk⟩
      exact ⟨⟨u, rfl, bytes_own ho⟩, hk⟩)
theorem Two.frT (h : Two a w D M R Q S S2 G) (i : Int) : Calls Try.prog 13 #[.pointer (some ⟨M, 0, none⟩), .int .i64 i] w fun e w' => (∃ u, e = .returned (.tuple #[u, .int .i64 (frE S i)]) ∧ Bytes w' u (frL S i)) ∧ Keep none_ w w' :=
  h.readT (P := fun e w' => ∃ u, e = .returned (.tuple #[u, .int .i64 (frE S i)]) ∧ Bytes w' u (frL S i)) (fun F v sb fb T h => by
    by_cases hi : i < 0 ∨ (S.nf : Int) ≤ i
    · have e1 : frE S i = 2 := by unfold frE; rw [if_pos hi]
      have e2 : frL S i = [] := by unfold frL; rw [if_pos hi]
      rw [e1, e2]
      refine (frame_err h i hi).mono ?_
      rintro e w' ⟨rfl, rfl⟩
      exact ⟨⟨_, rfl, bytes_nil _⟩, Keep.refl _ _⟩
    · have e1 : frE S i = 0 := by unfold frE; rw [if_neg hi]
      have e2 : frL S i = bytes32 (S.fr i.toNat) := by unfold frL; rw [if_neg hi]
      rw [e1, e2]
      obtain ⟨k, rfl⟩ := Int.eq_ofNat_of_zero_le (show 0 ≤ i by omega)
      refine (frame_ok h k (by omega)).mono ?_
      rintro e w' ⟨u, rfl, ho, hk⟩
      exact ⟨⟨u, rfl, bytes_own ho⟩, hk⟩)
theorem Two.frR (h : Two a w D M R Q S S2 G) (i : Int) : Calls Try.prog 55 #[.pointer (some ⟨Q, 0, none⟩), .int .i64 i] w fun e w' => (∃ u, e = .returned (.tuple #[u, .int .i64 (frE S2 i)]) ∧ Bytes w' u (frL S2 i)) ∧ Keep none_ w w' :=
  h.readR (P := fun e w' => ∃ u, e = .returned (.tuple #[u, .int .i64 (frE S2 i)]) ∧ Bytes w' u (frL S2 i)) (fun V F v sv bv iv h => by
    by_cases hi : i < 0 ∨ (S2.nf : Int) ≤ i
    · have e1 : frE S2 i = 2 := by unfold frE; rw [if_pos hi]
      have e2 : frL S2 i = [] := by unfold frL; rw [if_pos hi]
      rw [e1, e2]
      refine (rframe_err h i hi).mono ?_
      rintro e w' ⟨rfl, rfl⟩
      exact ⟨⟨_, rfl, bytes_nil _⟩, Keep.refl _ _⟩
    · have e1 : frE S2 i = 0 := by unfold frE; rw [if_neg hi]
      have e2 : frL S2 i = bytes32 (S2.fr i.toNat) := by unfold frL; rw [if_neg hi]
      rw [e1, e2]
      obtain ⟨k, rfl⟩ := Int.eq_ofNat_of_zero_le (show 0 ≤ i by omega)
      refine (rframe_ok h k (by omega)).mono ?_
      rintro e w' ⟨u, rfl, ho, hk⟩
      exact ⟨⟨u, rfl, bytes_own ho⟩, hk⟩)
def Reqs (w : World) (base : Nat) (u : Value) (l : List Req) : Prop := w.ownsRow base 44 5 u l.length (flatQ l)
theorem Two.waitT (h : Two a w D M R Q S S2 G) : Calls Try.prog 14 #[.pointer (some ⟨D, 0, none⟩)] w fun e w' => (∃ u, e = .returned u ∧ Reqs w' 0 u S.q) ∧ Keep none_ w w' :=
  h.readT (P := fun e w' => ∃ u, e = .returned u ∧ Reqs w' 0 u S.q) (fun F v sb fb T h => by
    refine (waiting_any h).mono ?_
    rintro e w' ⟨u, rfl, ho, hk⟩
    exact ⟨⟨u, rfl, ownsRow_base ho (Nat.zero_le _)⟩, hk⟩)
theorem Two.waitR (h : Two a w D M R Q S S2 G) : Calls Try.prog 57 #[.pointer (some ⟨R, 0, none⟩)] w fun e w' => (∃ u, e = .returned u ∧ Reqs w' 0 u S2.q) ∧ Keep none_ w w' :=
  h.readR (P := fun e w' => ∃ u, e = .returned u ∧ Reqs w' 0 u S2.q) (fun V F v sv bv iv h => by
    refine (rwaiting_any h).mono ?_
    rintro e w' ⟨u, rfl, ho, hk⟩
    exact ⟨⟨u, rfl, ownsRow_base ho (Nat.zero_le _)⟩, hk⟩)
theorem Two.sizeT (h : Two a w D M R Q S S2 G) : Calls Try.prog 29 #[.pointer (some ⟨D, 0, none⟩)] w fun e w' => e = .returned (.int .i64 S.ns) ∧ Keep none_ w w' :=
  h.readT (P := fun e w' => e = .returned (.int .i64 S.ns)) (fun F v sb fb T h => by
    refine (size_any h).mono ?_
    rintro e w' ⟨rfl, rfl⟩
    exact ⟨rfl, Keep.refl _ _⟩)
theorem Two.sizeR (h : Two a w D M R Q S S2 G) : Calls Try.prog 52 #[.pointer (some ⟨R, 0, none⟩)] w fun e w' => e = .returned (.int .i64 S2.ns) ∧ Keep none_ w w' :=
  h.readR (P := fun e w' => e = .returned (.int .i64 S2.ns)) (fun V F v sv bv iv h => by
    refine (rdsize_any h).mono ?_
    rintro e w' ⟨rfl, rfl⟩
    exact ⟨rfl, Keep.refl _ _⟩)
theorem Two.framesR (h : Two a w D M R Q S S2 G) : Calls Try.prog 54 #[.pointer (some ⟨Q, 0, none⟩)] w fun e w' => e = .returned (.int .i64 S2.nf) ∧ Keep none_ w w' :=
  h.readR (P := fun e w' => e = .returned (.int .i64 S2.nf)) (fun V F v sv bv iv h => by
    refine (rsize_any h).mono ?_
    rintro e w' ⟨rfl, rfl⟩
    exact ⟨rfl, Keep.refl _ _⟩)
end
end Go.Proofs.Ytjlenocmfeggdaa
