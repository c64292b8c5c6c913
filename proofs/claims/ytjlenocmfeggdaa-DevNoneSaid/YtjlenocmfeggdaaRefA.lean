/- The walks of the document's memory: Size, may, SetByte, Frame. -/
import Derived.Test.YtjlenocmfeggdaaImpP
namespace Go.Proofs.Ytjlenocmfeggdaa
open Go.RowKit
attribute [local go_sem] cell_alloc_some frozen_alloc_some
section
variable {w w' : World} {R M : Nat} {S : St} {v sv bv : Value} {iv : Nat → Value} {W F : Nat → Prop}
/-- the frames' bytes are others -/
theorem RepR.mset (h : RepR w R M S v sv bv iv W F) (hk : Keep (fun b => bv.ownBlock = some b) w w') {fr : Nat → Nat → UInt8} (hf : w'.ownsRow 0 5 1 bv (S.nf * 32) (grid S.nf fr)) : RepR w' R M { S with fr := fr } v sv bv iv W F := by
  have nb : ∀ {b t : Nat} {cs : List Value}, Blk w b t cs → t ≠ 5 → Blk w' b t cs := fun hb ht => hb.keep hk (fun e => own_ne h.frs hb (Ne.symm ht) e)
  refine ⟨⟨h.inv.ns0, h.inv.ns1, h.inv.nf0, h.inv.nf1, h.inv.q8, h.inv.ok⟩, nb h.disk (by decide), ownsRow_keep h.que hk (fun g hg e => ?_), ownsRow_keep h.secs hk (fun g hg e => ?_), fun i hi => ⟨ownsRow_keep (h.rows i hi).1 hk (fun g hg e => h.ne i hi (by rw [hg, e])), (h.rows i hi).2⟩, nb h.mem (by decide), hf, h.wR, h.wS, h.wB, h.ne, h.wF, h.footM, h.footQ⟩
  · rcases h.que.2 with ⟨rfl, _⟩ | ⟨g', cap, cur, rfl, _, hh, _⟩
    · cases hg
    · injection hg with hg
      have : g' = g := hg
      subst this
      have hb : Blk w g' 44 cur.toList := by unfold Blk; simpa using hh
      exact own_ne h.frs hb (by decide) e
  · rcases h.secs.2 with ⟨rfl, _⟩ | ⟨g', cap, cur, rfl, _, hh, _⟩
    · cases hg
    · injection hg with hg
      have : g' = g := hg
      subst this
      have hb : Blk w g' 35 cur.toList := by unfold Blk; simpa using hh
      exact own_ne h.frs hb (by decide) e
theorem RepR.bslice (h : RepR w R M S v sv bv iv W F) : ∃ bb cb, bv = .slice (some ⟨bb, 0, none⟩) (S.nf * 32) cb ∧ S.nf * 32 ≤ cb := by
  obtain ⟨g, cap, rfl, _, _⟩ := h.frs.form (by have := h.inv.nf0; omega)
  obtain ⟨A, c, hv, h1, _⟩ := own_form h.frs
  injection hv with _ _ e
  subst e
  exact ⟨g, cap, rfl, h1⟩
theorem rsize_any (h : RepR w R M S v sv bv iv W F) : Calls Try.prog 54 #[.pointer (some ⟨M, 0, none⟩)] w fun e w' => e = .returned (.int .i64 S.nf) ∧ w = w' := by
  obtain ⟨bb, cb, rfl, _⟩ := h.bslice
  have c0 := h.mem.cell_of (i := 0) rfl
  have hn := h.inv.nf1
  clear h
  generalize S.nf = nf at *
  have i0 : (0 : Int) ≤ (nf : Int) * 32 := by omega
  have i1 : (nf : Int) * 32 ≤ 2048 := by omega
  go_enter Try.func54, Try.ntmps54
  go_wp2
  go_ret
  exact ⟨rfl, rfl⟩
set_option maxRecDepth 100000 in
set_option maxHeartbeats 400000 in
theorem rmay_any (h : RepR w R M S v sv bv iv W F) (i off : Int) : Calls Try.prog 73 #[.pointer (some ⟨M, 0, none⟩), .int .i64 i, .int .i64 off, .int .i64 1] w fun e w' => e = .returned (.int .i64 (pokeE S i off)) ∧ w = w' := by
  have H1 := Lib.hid (rsize_any h)
  have hn := h.inv.nf1
  rcases poke_cases S i off with ⟨he, hc⟩ | ⟨he, p, q, rfl, rfl, hp, hq⟩
  · rw [he]
    have HC := Lib.hid hc
    clear h he hc
    generalize S.nf = nf at *
    by_cases h1 : i < 0
    · go_enter Try.func73, Try.ntmps73
      go_wp2_with (go_at_call 54; refine H1.out.mono ?_; rintro e w' ⟨rfl, rfl⟩)
      go_ret
      exact ⟨rfl, rfl⟩
    · have h1' : 0 ≤ i := by omega
      go_enter Try.func73, Try.ntmps73
      go_wp2_with (go_at_call 54; refine H1.out.mono ?_; rintro e w' ⟨rfl, rfl⟩)
      all_goals first
        | (exfalso; have := HC.out; omega)
        | (go_ret; exact ⟨rfl, rfl⟩)
  · rw [he]
    clear h he
    generalize S.nf = nf at *
    have i0 : (0 : Int) ≤ (p : Int) := by omega
    have i1 : (p : Int) < (nf : Int) := by omega
    have i2 : (0 : Int) ≤ (q : Int) := by omega
    have i3 : (q : Int) ≤ 31 := by omega
    go_enter Try.func73, Try.ntmps73
    go_wp2_with (go_at_call 54; refine H1.out.mono ?_; rintro e w' ⟨rfl, rfl⟩)
    go_ret
    exact ⟨rfl, rfl⟩
set_option maxRecDepth 100000 in
set_option maxHeartbeats 400000 in
theorem rsetbyte_any (h : RepR w R M S v sv bv iv W F) (i off : Int) (c : UInt8) :
    Calls Try.prog 66 #[.pointer (some ⟨M, 0, none⟩), .int .i64 i, .int .i64 off, byv c] w fun e w' => e = .returned (.int .i64 (pokeE S i off)) ∧ RepR w' R M (pokeS S i off c) v sv bv iv W F ∧ Keep (fun b => bv.ownBlock = some b) w w' := by
  have H1 := Lib.hid (rmay_any h i off)
  rcases poke_cases S i off with ⟨he, hc⟩ | ⟨he, p, q, rfl, rfl, hp, hq⟩
  · have hS : pokeS S i off c = S := by unfold pokeS; rw [if_neg (by rw [he]; decide)]
    rw [he] at H1
    rw [he, hS]
    have HR := Lib.hid h
    clear h hc he hS
    generalize byv c = cv
    go_enter Try.func66, Try.ntmps66
    go_wp2_with fail
    refine H1.out.mono ?_
    rintro e w' ⟨rfl, rfl⟩
    go_wp2
    go_ret
    exact ⟨rfl, HR.out, Keep.refl _ _⟩
  · have hS : pokeS S p q c = { S with fr := upd2 S.fr p (fun j => if j = q then c else S.fr p j) } := by unfold pokeS; rw [if_pos he]; rfl
    rw [he] at H1
    rw [he, hS]
    obtain ⟨bb, cb, rfl, hcb⟩ := h.bslice
    have hk : Keep (fun b => (Value.slice (some ⟨bb, 0, none⟩) (S.nf * 32) cb).ownBlock = some b) w (w.setCell ⟨bb, p * 32 + q, none⟩ (byv c)) := Keep.setCell (S := fun b => (Value.slice (some ⟨bb, 0, none⟩) (S.nf * 32) cb).ownBlock = some b) (p := ⟨bb, p * 32 + q, none⟩) (Keep.refl _ w) (.inl rfl) _
    have hst := (h.frs.stored (p * 32 + q) (byv c)).1
    rw [grid_set _ hq] at hst
    have HR := Lib.hid (h.mset hk hst)
    have HK := Lib.hid hk
    have hcell := h.frs.cellAt (p * 32 + q) (by omega)
    rw [grid_get _ hp hq] at hcell
    have hz := h.frs.frozenAt (p * 32 + q)
    have c0 := h.mem.cell_of (i := 0) rfl
    have hn := h.inv.nf1
    clear h he hk hst hS
    generalize S.nf = nf at *
    unfold byv at *
    have i0 : (0 : Int) ≤ (p : Int) := by omega
    have i1 : (0 : Int) ≤ (q : Int) := by omega
    have i2 : (p : Int) ≤ 64 := by omega
    have i3 : (q : Int) ≤ 31 := by omega
    have i4 : (p : Int) * 32 + q < (nf : Int) * 32 := by omega
    have i5 : (0 : Int) ≤ (p : Int) * 32 + q := by omega
    have i6 : (p : Int) * 32 + q ≤ 3000 := by omega
    have i7 : (p : Int) * 32 ≤ 3000 := by omega
    go_enter Try.func66, Try.ntmps66
    go_wp2_with fail
    refine H1.out.mono ?_
    rintro e w' ⟨rfl, rfl⟩
    go_wp2
    go_ret
    exact ⟨rfl, HR.out, HK.out⟩
theorem rframeCells {bb cb : Nat} (h : RepR w R M S v sv (.slice (some ⟨bb, 0, none⟩) (S.nf * 32) cb) iv W F) {i : Nat} (hi : i < S.nf) : ∀ j u, ((bytes32 (S.fr i)).map byv)[j]? = some u → w.cell? ((⟨bb, i * 32, none⟩ : Addr).add j) = some u := fun j u hu => by
  have hj : j < 32 := by have := (List.getElem?_eq_some_iff.1 hu).1; simpa [bytes32] using this
  rw [List.getElem?_map, bytes32_get hj] at hu
  have := h.frs.cellAt (i * 32 + j) (by omega)
  rw [grid_get _ hi hj] at this
  rw [Addr.add_mid, this]
  simpa using hu
set_option maxRecDepth 100000 in
set_option maxHeartbeats 400000 in
theorem rframe_ok (h : RepR w R M S v sv bv iv W F) (i : Nat) (hi : i < S.nf) :
    Calls Try.prog 55 #[.pointer (some ⟨M, 0, none⟩), .int .i64 i] w fun e w' => ∃ u, e = .returned (.tuple #[u, .int .i64 0]) ∧ w'.ownsRow w.heap.size 5 1 u 32 ((bytes32 (S.fr i)).map byv) ∧ Keep none_ w w' := by
  obtain ⟨i0, hi0, hz0, hz1, hz2⟩ := info_parts info5
  have H1 := Lib.hid (rmay_any h i 0)
  have he : pokeE S i 0 = 0 := by unfold pokeE; rw [if_neg (by omega)]
  rw [he] at H1
  obtain ⟨bb, cb, rfl, hcb⟩ := h.bslice
  have HH : Hid (Holds (w.alloc (.cells #[] 5)) (some ⟨bb, i * 32, none⟩) 32 1 ((bytes32 (S.fr i)).map byv)) := Holds.keep (G := none_) (.inr ⟨_, rfl, by simp [bytes32], rframeCells h hi⟩) ((Keep.refl _ w).alloc _) (fun _ _ => id)
  have HO : Hid ((w.alloc (.cells #[] 5)).ownsRow w.heap.size 5 1 (.slice (some ⟨w.heap.size, 0, none⟩) 0 0) 0 []) := World.ownsRow_made (e := 5) (size := 1) (base := w.heap.size) w #[] 0 (Nat.le_refl _) (by decide) rfl
  have HB := Lib.hid (byv_one (bytes32 (S.fr i)))
  have c0 := h.mem.cell_of (i := 0) rfl
  have hn := h.inv.nf1
  clear h he
  generalize (bytes32 (S.fr i)).map byv = L at *
  generalize S.nf = nf at *
  have j0 : (0 : Int) ≤ (i : Int) := by omega
  have j2 : (i : Int) ≤ 64 := by omega
  have j3 : (0 : Int) ≤ (i : Int) * 32 := by omega
  have j4 : (i : Int) * 32 ≤ ((i : Int) + 1) * 32 := by omega
  have j5 : ((i : Int) + 1) * 32 ≤ (cb : Int) := by omega
  have j6 : ((i : Int) + 1) * 32 ≤ 3000 := by omega
  have j7 : ¬ (cb = i * 32) := by omega
  have HLN : Hid ((i + 1) * 32 - i * 32 = 32) := by unfold Hid; omega
  go_enter Try.func55, Try.ntmps55
  go_wp2_with fail
  refine H1.out.mono ?_
  rintro e w' ⟨rfl, rfl⟩
  go_wp2_with (at_builtin; refine wpList_append_gen rfl _ _ 35 rfl w.heap.size 5 i0 (.int .u8 0) 1 1 Try.underlying35 hi0 hz0 hz1 hz2 rfl (by decide) (.slice (some ⟨w.heap.size, 0, none⟩) 0 0) 0 [] rfl HO.out (some ⟨bb, i * 32, none⟩) 32 (cb - i * 32) L ?hx HH.out HB.out (by unfold maxLen; omega) (by omega) (by simp) ?_; (case hx => (go_simp; try rw [HLN.out])); intro v' w' hown hg hob)
  have HW := Lib.hid hown
  have HK : Hid (Keep none_ w w') := ((Keep.refl none_ w).alloc _).thenF (Keep.of_grown hg) (fun x hx => .inr (by injection hx with hx; exact Nat.le_of_eq hx))
  clear hown hg hob
  go_wp2
  go_ret2
  exact ⟨v', rfl, by have := HW.out; rw [Nat.zero_add, List.nil_append] at this; exact this, HK.out⟩
set_option maxRecDepth 100000 in
theorem rframe_err (h : RepR w R M S v sv bv iv W F) (i : Int) (hi : i < 0 ∨ (S.nf : Int) ≤ i) :
    Calls Try.prog 55 #[.pointer (some ⟨M, 0, none⟩), .int .i64 i] w fun e w' => e = .returned (.tuple #[.slice none 0 0, .int .i64 2]) ∧ w = w' := by
  have H1 := Lib.hid (rmay_any h i 0)
  have he : pokeE S i 0 = 2 := by unfold pokeE; rw [if_pos (by omega)]
  rw [he] at H1
  clear h he
  go_enter Try.func55, Try.ntmps55
  go_wp2_with fail
  refine H1.out.mono ?_
  rintro e w' ⟨rfl, rfl⟩
  go_wp2
  go_ret2
  exact ⟨rfl, rfl⟩
end
end Go.Proofs.Ytjlenocmfeggdaa
