/- Deliver, whatever it is asked. -/
import Derived.Test.YtjlenocmfeggdaaImpJ
namespace Go.Proofs.Ytjlenocmfeggdaa
open Go.RowKit
section
variable {w w' : World} {D M : Nat} {S : St} {v : Value} {sb fb : Nat} {T : Tl} {F : Nat → Prop}
theorem deliver_any (h : RepT w D M S v sb fb T F) (hFl : ∀ b, F b → b < w.heap.size) (i : Int) :
    Calls Try.prog 17 #[.pointer (some ⟨D, 0, none⟩), .int .i64 i, .pointer (some ⟨M, 0, none⟩)] w fun e w' => e = .returned (.tuple #[.agg (reqc (delR S i)).toArray, .int .i64 (delE S i)]) ∧ (∃ v', RepT w' D M (delS S i) v' sb fb T F) ∧ Keep F w w' := by
  by_cases hi : i < 0 ∨ (S.q.length : Int) ≤ i
  · have e1 : delR S i = zeroR := by unfold delR; rw [if_pos (by omega)]
    have e2 : delE S i = 2 := by unfold delE; rw [if_pos (by omega)]
    have e3 : delS S i = S := by unfold delS; rw [if_pos (by omega)]
    rw [e1, e2, e3]
    refine (deliver_out h i hi).mono ?_
    rintro e w' ⟨rfl, hk⟩
    exact ⟨rfl, ⟨v, h.keep0 hk⟩, hk.mono fun _ hx => hx.elim⟩
  · obtain ⟨k, rfl⟩ : ∃ k : Nat, i = k := ⟨i.toNat, by omega⟩
    have hk : k < S.q.length := by omega
    have hr : S.q[k]? = some S.q[k] := List.getElem?_eq_getElem hk
    have e1 : delR S k = S.q[k] := by unfold delR; rw [if_neg (by omega), Int.toNat_natCast, List.getD_eq_getElem?_getD, hr]; rfl
    obtain ⟨h1, h2, h3, h4⟩ := h.inv.ok S.q[k] (List.getElem_mem hk)
    have e3 : delS S k = (S.pop k).move S.q[k] := by unfold delS; rw [if_neg (by omega), e1, Int.toNat_natCast]
    have e2 : delE S k = if (S.nf : Int) ≤ S.q[k].fr then 10 else 0 := by unfold delE; rw [if_neg (by omega), e1]
    rw [e1, e2, e3]
    generalize S.q[k] = r at *
    by_cases hf : (S.nf : Int) ≤ r.fr
    · have e4 : (S.pop k).move r = S.pop k := by unfold St.move; exact if_pos hf
      rw [if_pos hf, e4]
      exact deliver_fault h hFl k hk r hr hf
    · have ef : r.fr = (r.fr.toNat : Int) := by omega
      have es : r.sec = (r.sec.toNat : Int) := by omega
      rw [if_neg hf]
      cases hw : r.wr with
      | true =>
        have e4 : (S.pop k).move r = { S.pop k with sec := upd2 S.sec r.sec.toNat (S.fr r.fr.toNat) } := by unfold St.move; rw [if_neg (show ¬ ((S.pop k).nf : Int) ≤ r.fr from hf), if_pos hw]; rfl
        rw [e4]
        exact deliver_write h hFl k hk r hr r.sec.toNat r.fr.toNat es ef (by omega) (by omega) hw
      | false =>
        have e4 : (S.pop k).move r = { S.pop k with fr := upd2 S.fr r.fr.toNat (S.sec r.sec.toNat) } := by unfold St.move; rw [if_neg (show ¬ ((S.pop k).nf : Int) ≤ r.fr from hf), if_neg (by rw [hw]; decide)]; rfl
        rw [e4]
        exact deliver_read h hFl k hk r hr r.sec.toNat r.fr.toNat es ef (by omega) (by omega) hw
end
end Go.Proofs.Ytjlenocmfeggdaa
