/- The walks of SetByte, Frame, Byte, New of a memory and of a disk. -/
import Derived.Test.YtjlenocmfeggdaaImpA
import Derived.Deep.WholeRow
namespace Go.Proofs.Ytjlenocmfeggdaa
open Go.RowKit
attribute [local go_sem] cell_alloc_some frozen_alloc_some
section
variable {w w' : World} {D M : Nat} {S : St} {v : Value} {sb fb : Nat} {T : Tl} {F : Nat → Prop}
theorem poke_cases (S : St) (i off : Int) : (pokeE S i off = 2 ∧ (i < 0 ∨ (S.nf : Int) ≤ i ∨ off < 0 ∨ 32 - ((1 : Nat) : Int) < off)) ∨ (pokeE S i off = 0 ∧ ∃ p q : Nat, i = p ∧ off = q ∧ p < S.nf ∧ q < 32) := by
  unfold pokeE
  by_cases h : i < 0 ∨ S.nf ≤ i ∨ off < 0 ∨ 31 < off
  · rw [if_pos h]; exact .inl ⟨rfl, by omega⟩
  · rw [if_neg h]; exact .inr ⟨rfl, i.toNat, off.toNat, by omega, by omega, by omega, by omega⟩
theorem RepT.poke (h : RepT w D M S v sb fb T F) {p q : Nat} (hp : p < S.nf) (hq : q < 32) (c : UInt8) : RepT (w.setCell ⟨fb, p * 32 + q, none⟩ (byv c)) D M (pokeS S p q c) v sb fb T F := by
  have hE : pokeE S p q = 0 := by unfold pokeE; rw [if_neg (by omega)]
  have hinv := h.inv.poke p q c
  have hk : Keep (· = fb) w (w.setCell ⟨fb, p * 32 + q, none⟩ (byv c)) := Keep.setCell (S := (· = fb)) (Keep.refl _ w) (.inl rfl) _
  have hS : pokeS S p q c = { S with fr := upd2 S.fr p (fun j => if j = q then c else S.fr p j) } := by unfold pokeS; rw [if_pos hE]; rfl
  rw [hS] at hinv ⊢
  refine ⟨hinv, h.disk.keep hk (h.disk.ne_ h.frs (by decide)), ownsRow_keep h.que hk (fun g hg e => own_ne h.que h.frs (by decide) (by rw [hg, e])), h.secs.keep hk (h.secs.ne_ h.frs (by decide)), h.mem.keep hk (h.mem.ne_ h.frs (by decide)), ?_, h.footD, h.footQ, h.footS, h.footM, h.footF⟩
  have := h.frs.set_ (p * 32 + q) (byv c)
  rw [gridT_set _ _ hp hq] at this
  exact this
set_option maxRecDepth 100000 in
set_option maxHeartbeats 400000 in
theorem setbyte_any (h : RepT w D M S v sb fb T F) (i off : Int) (c : UInt8) :
    Calls Try.prog 12 #[.pointer (some ⟨M, 0, none⟩), .int .i64 i, .int .i64 off, byv c] w fun e w' => e = .returned (.int .i64 (pokeE S i off)) ∧ RepT w' D M (pokeS S i off c) v sb fb T F ∧ Keep (· = fb) w w' := by
  rcases poke_cases S i off with ⟨he, hc⟩ | ⟨he, p, q, rfl, rfl, hp, hq⟩
  · have hS : pokeS S i off c = S := by unfold pokeS; rw [if_neg (by rw [he]; decide)]
    rw [he, hS]
    have H1 := Lib.hid (at_err h i off 1 (by decide) hc)
    have HR := Lib.hid h
    clear h hc he hS
    generalize byv c = cv
    go_enter Try.func12, Try.ntmps12
    go_wp2_with fail
    refine H1.out.mono ?_
    rintro e w' ⟨rfl, rfl⟩
    go_wp2
    go_ret
    exact ⟨rfl, HR.out, Keep.refl _ _⟩
  · rw [he]
    have H1 := Lib.hid (at_ok h p q 1 hp (by omega) (by decide))
    have hcell := h.frs.cell_of (gridT_get S.fr T.rf hp hq)
    have hz := h.frs.frozen (p * 32 + q)
    have HR := Lib.hid (h.poke hp hq c)
    clear h he
    unfold byv at *
    go_enter Try.func12, Try.ntmps12
    go_wp2_with fail
    refine H1.out.mono ?_
    rintro e w' ⟨rfl, rfl⟩
    go_wp2
    go_ret
    exact ⟨rfl, HR.out, Keep.setCell (S := (· = fb)) (Keep.refl _ w) (.inl rfl) _⟩
theorem bytes_holds (h : RepT w D M S v sb fb T F) {i : Nat} (hi : i < S.nf) : ((bytes32 (S.fr i)).map byv).length = 32 * 1 ∧ ∀ j u, ((bytes32 (S.fr i)).map byv)[j]? = some u → w.cell? ((⟨fb, i * 32, none⟩ : Addr).add j) = some u := by
  refine ⟨by simp [bytes32], fun j u hu => ?_⟩
  have hj : j < 32 := by have := (List.getElem?_eq_some_iff.1 hu).1; simpa [bytes32] using this
  rw [List.getElem?_map, bytes32_get hj] at hu
  rw [Addr.add_mid]
  exact h.frs.cell_of ((gridT_get S.fr T.rf hi hj).trans (by simpa using hu))
set_option maxRecDepth 100000 in
set_option maxHeartbeats 400000 in
theorem frame_ok (h : RepT w D M S v sb fb T F) (i : Nat) (hi : i < S.nf) :
    Calls Try.prog 13 #[.pointer (some ⟨M, 0, none⟩), .int .i64 i] w fun e w' => ∃ u, e = .returned (.tuple #[u, .int .i64 0]) ∧ w'.ownsRow w.heap.size 5 1 u 32 ((bytes32 (S.fr i)).map byv) ∧ Keep none_ w w' := by
  have H1 := Lib.hid (at_ok h i 0 32 hi (by decide) (by decide))
  have hb := bytes_holds h hi
  have H2 := Lib.hid (clone_some w ⟨fb, i * 32, none⟩ 32 32 (bytes32 (S.fr i)) hb.1 hb.2 (by decide))
  clear h hb
  go_enter Try.func13, Try.ntmps13
  go_wp2_with fail
  refine H1.out.mono ?_
  rintro e w' ⟨rfl, rfl⟩
  go_wp2_with fail
  refine H2.out.mono ?_
  rintro e w' ⟨u, rfl, ho, hk⟩
  have HO := Lib.hid ho
  have HK := Lib.hid hk
  clear ho hk
  go_wp2
  go_ret2
  exact ⟨u, rfl, HO.out, HK.out⟩
set_option maxRecDepth 100000 in
theorem frame_err (h : RepT w D M S v sb fb T F) (i : Int) (hi : i < 0 ∨ (S.nf : Int) ≤ i) :
    Calls Try.prog 13 #[.pointer (some ⟨M, 0, none⟩), .int .i64 i] w fun e w' => e = .returned (.tuple #[.slice none 0 0, .int .i64 2]) ∧ w = w' := by
  have H1 := Lib.hid (at_err h i 0 32 (by decide) (by omega))
  have H2 := Lib.hid (clone_nil w)
  clear h
  go_enter Try.func13, Try.ntmps13
  go_wp2_with fail
  refine H1.out.mono ?_
  rintro e w' ⟨rfl, rfl⟩
  go_wp2_with fail
  refine H2.out.mono ?_
  rintro e w' ⟨rfl, rfl⟩
  go_wp2
  go_ret2
  exact ⟨rfl, rfl⟩
set_option maxRecDepth 100000 in
theorem byte_ok (h : RepT w D M S v sb fb T F) (p q : Nat) (hp : p < S.nf) (hq : q < 32) :
    Calls Try.prog 26 #[.pointer (some ⟨M, 0, none⟩), .int .i64 p, .int .i64 q] w fun e w' => e = .returned (.tuple #[byv (S.fr p q), .int .i64 0]) ∧ w = w' := by
  have H1 := Lib.hid (at_ok h p q 1 hp (by omega) (by decide))
  have hcell := h.frs.cell_of (gridT_get S.fr T.rf hp hq)
  clear h
  generalize S.fr p q = c at *
  unfold byv at *
  go_enter Try.func26, Try.ntmps26
  go_wp2_with fail
  refine H1.out.mono ?_
  rintro e w' ⟨rfl, rfl⟩
  go_wp2
  go_ret2
  exact ⟨rfl, rfl⟩
end
end Go.Proofs.Ytjlenocmfeggdaa
