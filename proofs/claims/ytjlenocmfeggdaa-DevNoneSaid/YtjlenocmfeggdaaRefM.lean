/- The document's disk: Deliver whatever it is asked, Cancel, Drop, Fork. -/
import Derived.Test.YtjlenocmfeggdaaRefJ
import Derived.Test.YtjlenocmfeggdaaRefK
import Derived.Test.YtjlenocmfeggdaaRefL
import Derived.Deep.RegionHeld3
namespace Go.Proofs.Ytjlenocmfeggdaa
open Go.RowKit
attribute [local go_sem] cell_alloc_some frozen_alloc_some
section
variable {w w' : World} {R M : Nat} {S : St} {v sv bv : Value} {iv : Nat → Value} {W F : Nat → Prop}
theorem rdeliver_any (h : RepR w R M S v sv bv iv W F) (hFl : ∀ b, F b → b < w.heap.size) (i : Int) :
    Calls Try.prog 61 #[.pointer (some ⟨R, 0, none⟩), .int .i64 i, .pointer (some ⟨M, 0, none⟩)] w fun e w' => e = .returned (.tuple #[.agg (reqc (delR S i)).toArray, .int .i64 (delE S i)]) ∧ (∃ v' iv', RepR w' R M (delS S i) v' sv bv iv' W (ext F w w')) ∧ Keep W w w' := by
  by_cases hi : i < 0 ∨ (S.q.length : Int) ≤ i
  · have e1 : delR S i = zeroR := by unfold delR; rw [if_pos (by omega)]
    have e2 : delE S i = 2 := by unfold delE; rw [if_pos (by omega)]
    have e3 : delS S i = S := by unfold delS; rw [if_pos (by omega)]
    rw [e1, e2, e3]
    refine (rdeliver_out h i hi).mono ?_
    rintro e w' ⟨rfl, hk⟩
    exact ⟨rfl, ⟨v, iv, (h.keep0 hk).more (fun b hb => .inl hb) (fun _ hb => hb) (fun b hb => .inl (h.wF b hb))⟩, hk.mono fun _ hx => hx.elim⟩
  · obtain ⟨k, rfl⟩ : ∃ k : Nat, i = k := ⟨i.toNat, by omega⟩
    have hk : k < S.q.length := by omega
    have hr : S.q[k]? = some S.q[k] := List.getElem?_eq_getElem hk
    have e1 : delR S k = S.q[k] := by unfold delR; rw [if_neg (by omega), Int.toNat_natCast, List.getD_eq_getElem?_getD, hr]; rfl
    obtain ⟨h1, h2, h3, h4⟩ := h.inv.ok S.q[k] (List.getElem_mem hk)
    have e3 : delS S k = (S.pop k).move S.q[k] := by unfold delS; rw [if_neg (by omega), e1, Int.toNat_natCast]
    have e2 : delE S k = if (S.nf : Int) ≤ S.q[k].fr then 10 else 0 := by unfold delE; rw [if_neg (by omega), e1]
    rw [e1, e2, e3]
    generalize S.q[k] = r at *
    by_cases hf : (S.nf : Int) ≤ r.fr
    · have e4 : (S.pop k).move r = S.pop k := by unfold St.move; exact if_pos hf
      rw [if_pos hf, e4]
      exact rdeliver_fault h hFl k hk r hr hf
    · have ef : r.fr = (r.fr.toNat : Int) := by omega
      have es : r.sec = (r.sec.toNat : Int) := by omega
      rw [if_neg hf]
      cases hw : r.wr with
      | true =>
        have e4 : (S.pop k).move r = { S.pop k with sec := upd2 S.sec r.sec.toNat (S.fr r.fr.toNat) } := by unfold St.move; rw [if_neg (show ¬ ((S.pop k).nf : Int) ≤ r.fr from hf), if_pos hw]; rfl
        rw [e4]
        exact rdeliver_write h hFl k hk r hr r.sec.toNat r.fr.toNat es ef (by omega) (by omega) hw
      | false =>
        have e4 : (S.pop k).move r = { S.pop k with fr := upd2 S.fr r.fr.toNat (S.sec r.sec.toNat) } := by unfold St.move; rw [if_neg (show ¬ ((S.pop k).nf : Int) ≤ r.fr from hf), if_neg (by rw [hw]; decide)]; rfl
        rw [e4]
        exact rdeliver_read h hFl k hk r hr r.sec.toNat r.fr.toNat es ef (by omega) (by omega) hw
theorem out_none (S : St) (hi : S.Inv) (f : Int) (hf : f < 0) : outL S (ofFrame f) = [] ∧ outS S (ofFrame f) = S := by
  have key : ∀ r ∈ S.q, ofFrame f r = false := fun r hr => by
    have := (hi.ok r hr).2.2.1
    unfold ofFrame
    simp; omega
  constructor
  · unfold outL
    rw [List.filter_eq_nil_iff.2 (fun r hr => by simp [key r hr])]; rfl
  · unfold outS
    rw [List.filter_eq_self.2 (fun r hr => by simp [key r hr])]
theorem rcancel_any (h : RepR w R M S v sv bv iv W F) (f : Int) :
    Calls Try.prog 63 #[.pointer (some ⟨R, 0, none⟩), .int .i64 f] w fun e w' => ∃ u, e = .returned u ∧ w'.ownsRow w.heap.size 42 1 u (outL S (ofFrame f)).length ((outL S (ofFrame f)).map u32v) ∧ (∃ v', RepR w' R M (outS S (ofFrame f)) v' sv bv iv W (ext F w w')) ∧ Keep (· = R) w w' := by
  by_cases hf : f < 0
  · obtain ⟨e1, e2⟩ := out_none S h.inv f hf
    rw [e1, e2]
    have HR : Hid (RepR w R M S v sv bv iv W (ext F w w)) := h.more (fun b hb => .inl hb) (fun _ hb => hb) (fun b hb => .inl (h.wF b hb))
    clear h e1 e2
    go_enter Try.func63, Try.ntmps63
    go_wp2
    go_ret
    exact ⟨_, rfl, own_nil _ _ _ _, ⟨_, HR.out⟩, Keep.refl _ _⟩
  · have H1 := Lib.hid (without_frame h f (by omega))
    clear h
    go_enter Try.func63, Try.ntmps63
    go_wp2_with fail
    refine H1.out.mono ?_
    rintro e w' ⟨u, rfl, ho, hr, hk⟩
    have HO := Lib.hid ho
    have HR := Lib.hid hr
    have HK := Lib.hid hk
    clear ho hr hk H1
    go_wp2
    go_ret
    exact ⟨u, rfl, HO.out, HR.out, HK.out⟩
theorem rdrop_any (h : RepR w R M S v sv bv iv W F) (o : Int) :
    Calls Try.prog 64 #[.pointer (some ⟨R, 0, none⟩), .int .u8 o] w fun e w' => ∃ u, e = .returned u ∧ w'.ownsRow w.heap.size 42 1 u (outL S (ofOwner o)).length ((outL S (ofOwner o)).map u32v) ∧ (∃ v', RepR w' R M (outS S (ofOwner o)) v' sv bv iv W (ext F w w')) ∧ Keep (· = R) w w' := by
  have H1 := Lib.hid (without_owner h o)
  clear h
  go_enter Try.func64, Try.ntmps64
  go_wp2_with fail
  refine H1.out.mono ?_
  rintro e w' ⟨u, rfl, ho, hr, hk⟩
  have HO := Lib.hid ho
  have HR := Lib.hid hr
  have HK := Lib.hid hk
  clear ho hr hk H1
  go_wp2
  go_ret
  exact ⟨u, rfl, HO.out, HR.out, HK.out⟩
end
end Go.Proofs.Ytjlenocmfeggdaa
