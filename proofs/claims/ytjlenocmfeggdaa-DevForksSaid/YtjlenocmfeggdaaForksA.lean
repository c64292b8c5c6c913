/- Forks of all four, one after the other, with new boxes in between. -/
import Derived.Test.YtjlenocmfeggdaaSameB
import Derived.Test.YtjlenocmfeggdaaImpR
import Derived.Test.YtjlenocmfeggdaaRefN
namespace Go.Proofs.Ytjlenocmfeggdaa
open Go.RowKit
attribute [local go_sem] cell_alloc_some frozen_alloc_some
section
variable {a w w' V : World} {D M R Q B : Nat} {S S2 : St} {G G2 : Nat → Prop}
theorem Two.mono (h : Two a w D M R Q S S2 G) (hG : ∀ b, G b → G2 b) : Two a w D M R Q S S2 G2 := by
  obtain ⟨FT, FR, W, h1, h2, h3, h4, h5, hV, h6⟩ := h
  exact ⟨FT, FR, W, h1, h2, h3, fun b hb => ⟨(h4 b hb).1, (h4 b hb).2.imp (hG b) id⟩, h5, fun b hb => (hV b hb).imp (hG b) id, h6.mono hG⟩
/-- entering beside a box that is none of it -/
theorem Two.beside {cs : List Value} (h : Two a w D M R Q S S2 G) (hB : Blk w B 29 cs) : Two w w D M R Q S S2 (fun b => mid a w G b ∧ b ≠ B) := by
  obtain ⟨FT, FR, V, ⟨v, sb, fb, T, h1⟩, ⟨vr, sv, bv, iv, h2⟩, h3, h4, h5, hV, h6⟩ := h
  have t1 : RT w D M S (fun b => FT b ∧ b ≠ B) := ⟨v, sb, fb, T, h1.inv, h1.disk, h1.que, h1.secs, h1.mem, h1.frs, ⟨h1.footD, h1.disk.ne_ hB (by decide)⟩, fun g hg => ⟨h1.footQ g hg, fun e => own_ne h1.que hB (by decide) (by rw [hg, e])⟩, ⟨h1.footS, h1.secs.ne_ hB (by decide)⟩, ⟨h1.footM, h1.mem.ne_ hB (by decide)⟩, ⟨h1.footF, h1.frs.ne_ hB (by decide)⟩⟩
  have t2 : RR w R Q S2 (fun b => V b ∧ b ≠ B) (fun b => FR b ∧ b ≠ B) := ⟨vr, sv, bv, iv, h2.inv, h2.disk, h2.que, h2.secs, fun i hi => ⟨(h2.rows i hi).1, fun g hg => ⟨(h2.rows i hi).2 g hg, fun e => own_ne (h2.rows i hi).1 hB (by decide) (by rw [hg, e])⟩⟩, h2.mem, h2.frs, ⟨h2.wR, h2.disk.ne_ hB (by decide)⟩, fun g hg => ⟨h2.wS g hg, fun e => own_ne h2.secs hB (by decide) (by rw [hg, e])⟩, fun g hg => ⟨h2.wB g hg, fun e => own_ne h2.frs hB (by decide) (by rw [hg, e])⟩, h2.ne, fun b hb => ⟨h2.wF b hb.1, hb.2⟩, ⟨h2.footM, h2.mem.ne_ hB (by decide)⟩, fun g hg => ⟨h2.footQ g hg, fun e => own_ne h2.que hB (by decide) (by rw [hg, e])⟩⟩
  exact ⟨_, _, _, t1, t2, fun b hb hc => h3 b hb.1 hc.1, fun b hb => ⟨(h4 b hb.1).1, .inl ⟨⟨(h4 b hb.1).2, (h4 b hb.1).1⟩, hb.2⟩⟩, fun b hb => h5 b hb.1, fun b hb => .inl ⟨⟨hV b hb.1, h5 b (h2.wF b hb.1)⟩, hb.2⟩, Keep.refl _ _⟩
/-- the four, one after the other -/
structure F1 (w V : World) (S : St) (D : Nat) (hi : Nat) : Prop where
  ex : ∃ v sb c rest, Blk V D 92 [v, .int .u32 S.last, .slice (some ⟨sb, 0, none⟩) S.ns c] ∧ V.ownsRow 0 44 5 v S.q.length (flatQ S.q) ∧ Blk V sb 98 (gridT S.ns S.sec rest) ∧ (w.heap.size ≤ sb ∧ sb < hi) ∧ (w.heap.size ≤ D ∧ D < hi) ∧ ∀ g, v.ownBlock = some g → w.heap.size ≤ g ∧ g < hi
structure F2 (w V : World) (S : St) (M : Nat) (hi : Nat) : Prop where
  ex : ∃ g c rest, Blk V M 102 [.slice (some ⟨g, 0, none⟩) S.nf c] ∧ Blk V g 115 (gridT S.nf S.fr rest) ∧ (w.heap.size ≤ g ∧ g < hi) ∧ (w.heap.size ≤ M ∧ M < hi)
structure F3 (V : World) (S : St) (R : Nat) (iv : Nat → Value) (lo hi : Nat) : Prop where
  ex : ∃ v sv, Blk V R 118 [sv, v, .int .u32 S.last] ∧ V.ownsRow 0 35 1 sv S.ns (row S.ns iv) ∧ V.ownsRow 0 44 5 v S.q.length (flatQ S.q) ∧ (lo ≤ R ∧ R < hi) ∧ (∀ g, sv.ownBlock = some g → lo ≤ g ∧ g < hi) ∧ ∀ g, v.ownBlock = some g → lo ≤ g ∧ g < hi
structure F4 (V : World) (S : St) (Q : Nat) (lo hi : Nat) : Prop where
  ex : ∃ bv, Blk V Q 120 [bv] ∧ V.ownsRow 0 5 1 bv (S.nf * 32) (grid S.nf S.fr) ∧ (lo ≤ Q ∧ Q < hi) ∧ ∀ g, bv.ownBlock = some g → lo ≤ g ∧ g < hi
theorem F1.keep {hi : Nat} (h : F1 w V S D hi) (hk : Keep none_ V w') : F1 w w' S D hi := by
  obtain ⟨v, sb, c, rest, h1, h2, h3, h4⟩ := h
  exact ⟨v, sb, c, rest, h1.keep hk id, ownsRow_keep h2 hk (fun _ _ => id), h3.keep hk id, h4⟩
theorem F2.keep {hi : Nat} (h : F2 w V S M hi) (hk : Keep none_ V w') : F2 w w' S M hi := by
  obtain ⟨g, c, rest, h1, h2, h4⟩ := h
  exact ⟨g, c, rest, h1.keep hk id, h2.keep hk id, h4⟩
theorem F3.keep {iv : Nat → Value} {lo hi : Nat} (h : F3 V S R iv lo hi) (hk : Keep none_ V w') : F3 w' S R iv lo hi := by
  obtain ⟨v, sv, h1, h2, h3, h4⟩ := h
  exact ⟨v, sv, h1.keep hk id, ownsRow_keep h2 hk (fun _ _ => id), ownsRow_keep h3 hk (fun _ _ => id), h4⟩
theorem F4.keep {lo hi : Nat} (h : F4 V S Q lo hi) (hk : Keep none_ V w') : F4 w' S Q lo hi := by
  obtain ⟨bv, h1, h2, h4⟩ := h
  exact ⟨bv, h1.keep hk id, ownsRow_keep h2 hk (fun _ _ => id), h4⟩
/-- what is handed from call to call: the world w before them all, V where we are -/
structure Fk0 (a w V : World) (D M R Q : Nat) (S : St) (G : Nat → Prop) (iv : Nat → Value) : Prop where
  keep : Keep none_ w V
  T : ∃ v sb fb T F, RepT w D M S v sb fb T F
  R : ∃ v sv bv W F, RepR w R Q S v sv bv iv W F ∧ ∀ b, F b → b < w.heap.size
theorem Two.fk0 (h : Two a w D M R Q S S G) : ∃ iv, Fk0 a w w D M R Q S G iv := by
  obtain ⟨FT, FR, V, ⟨v, sb, fb, T, h1⟩, ⟨vr, sv, bv, iv, h2⟩, h3, h4, h5, hV, h6⟩ := h
  exact ⟨iv, Keep.refl _ _, ⟨v, sb, fb, T, FT, h1⟩, vr, sv, bv, V, FR, h2, h5⟩
theorem Fk0.more {iv : Nat → Value} (h : Fk0 a w V D M R Q S G iv) (hk : Keep none_ V w') : Fk0 a w w' D M R Q S G iv := ⟨h.keep.trans hk, h.T, h.R⟩
theorem Fk0.f1 {iv : Nat → Value} (h : Fk0 a w V D M R Q S G iv) : Calls Try.prog 30 #[.pointer (some ⟨D, 0, none⟩)] V fun e w' => ∃ D', e = .returned (.pointer (some ⟨D', 0, none⟩)) ∧ F1 w w' S D' w'.heap.size ∧ Keep none_ V w' ∧ Fk0 a w w' D M R Q S G iv := by
  obtain ⟨hk, ⟨v, sb, fb, T, F, h1⟩, h2⟩ := h
  have hs := hk.size
  refine (diskfork_any (h1.keep0 hk)).mono ?_
  rintro e w' ⟨D', v', sb', c', rest, rfl, b1, o1, b2, l1, l2, hk2⟩
  exact ⟨D', rfl, ⟨v', sb', c', rest, b1, ownsRow_base o1 (Nat.zero_le _), b2, ⟨by omega, b2.lt⟩, ⟨by omega, b1.lt⟩, fun g hg => ⟨by have := (ownsRow_lt o1 hg).1; omega, (ownsRow_lt o1 hg).2⟩⟩, hk2, hk.trans hk2, ⟨v, sb, fb, T, F, h1⟩, h2⟩
theorem Fk0.f2 {iv : Nat → Value} (h : Fk0 a w V D M R Q S G iv) : Calls Try.prog 31 #[.pointer (some ⟨M, 0, none⟩)] V fun e w' => ∃ M', e = .returned (.pointer (some ⟨M', 0, none⟩)) ∧ F2 w w' S M' w'.heap.size ∧ Keep none_ V w' ∧ Fk0 a w w' D M R Q S G iv := by
  obtain ⟨hk, ⟨v, sb, fb, T, F, h1⟩, h2⟩ := h
  have hs := hk.size
  have h1' := h1.keep0 hk
  refine (memfork_any M fb S.nf T.fc S.fr T.rf h1'.mem h1'.frs h1.inv.nf0 h1.inv.nf1).mono ?_
  rintro e w' ⟨M', g, c, rest, rfl, b1, b2, l1, l2, hk2⟩
  exact ⟨M', rfl, ⟨g, c, rest, b1, b2, ⟨by omega, b2.lt⟩, ⟨by omega, b1.lt⟩⟩, hk2, hk.trans hk2, ⟨v, sb, fb, T, F, h1⟩, h2⟩
theorem Fk0.f3 {iv : Nat → Value} (h : Fk0 a w V D M R Q S G iv) : Calls Try.prog 32 #[.pointer (some ⟨R, 0, none⟩)] V fun e w' => ∃ R', e = .returned (.pointer (some ⟨R', 0, none⟩)) ∧ F3 w' S R' iv V.heap.size w'.heap.size ∧ Keep none_ V w' ∧ Fk0 a w w' D M R Q S G iv := by
  obtain ⟨hk, h1, v, sv, bv, W, F, h2, h3⟩ := h
  have hs := hk.size
  refine (rdiskfork_any (h2.keep0 hk)).mono ?_
  rintro e w' ⟨R', v', sv', rfl, b1, o1, o2, l1, hk2⟩
  exact ⟨R', rfl, ⟨v', sv', b1, ownsRow_base o1 (Nat.zero_le _), ownsRow_base o2 (Nat.zero_le _), ⟨by omega, b1.lt⟩, fun g hg => ownsRow_lt o1 hg, fun g hg => ownsRow_lt o2 hg⟩, hk2, hk.trans hk2, h1, v, sv, bv, W, F, h2, h3⟩
theorem Fk0.f4 {iv : Nat → Value} (h : Fk0 a w V D M R Q S G iv) : Calls Try.prog 33 #[.pointer (some ⟨Q, 0, none⟩)] V fun e w' => ∃ Q', e = .returned (.pointer (some ⟨Q', 0, none⟩)) ∧ F4 w' S Q' V.heap.size w'.heap.size ∧ Keep none_ V w' ∧ Fk0 a w w' D M R Q S G iv := by
  obtain ⟨hk, h1, v, sv, bv, W, F, h2, h3⟩ := h
  have hs := hk.size
  have h2' := h2.keep0 hk
  have hnf := h2.inv.nf1
  refine (rmemfork_any Q (S.nf * 32) bv (grid S.nf S.fr) h2'.mem h2'.frs (fun u hu => by
    obtain ⟨k, _, rfl⟩ := List.mem_map.1 hu
    rfl) (by omega)).mono ?_
  rintro e w' ⟨Q', bv', rfl, b1, o1, l1, hk2⟩
  exact ⟨Q', rfl, ⟨bv', b1, ownsRow_base o1 (Nat.zero_le _), ⟨by omega, b1.lt⟩, fun g hg => ownsRow_lt o1 hg⟩, hk2, hk.trans hk2, h1, v, sv, bv, W, F, h2, h3⟩
/-- all four are there -/
theorem Fk0.two {iv : Nat → Value} {D' M' R' Q' m1 m2 m3 m4 m5 m6 : Nat} (h : Fk0 a w V D M R Q S G iv) (f1 : F1 w V S D' m1) (f2 : F2 w V S M' m2) (f3 : F3 V S R' iv m3 m4) (f4 : F4 V S Q' m5 m6) (h12 : m1 ≤ m2) (h23 : m2 ≤ m3) (h45 : m4 ≤ m5) (h6 : m6 ≤ V.heap.size) (hw : w.heap.size ≤ m3) :
    Two w V D' M' R' Q' S S none_ := by
  obtain ⟨hk, ⟨v, sb, fb, T, F, h1⟩, vr, sv, bv, W, Fr, h2, h3⟩ := h
  obtain ⟨v1, sb1, c1, rest1, a1, a2, a3, a4, a5, a6⟩ := f1
  obtain ⟨g2, c2, rest2, b1, b2, b3, b4⟩ := f2
  obtain ⟨v3, sv3, d1, d2, d3, d4, d5, d6⟩ := f3
  obtain ⟨bv4, e1, e2, e3, e4⟩ := f4
  refine ⟨fun b => w.heap.size ≤ b ∧ b < m2, fun b => (m3 ≤ b ∧ b < m6) ∨ Fr b, fun b => m3 ≤ b ∧ b < m6, ⟨v1, sb1, g2, ⟨c1, c2, rest1, rest2⟩, ⟨h1.inv, a1, a2, a3, b1, b2, ⟨a5.1, by omega⟩, fun g hg => ⟨(a6 g hg).1, by have := (a6 g hg).2; omega⟩, ⟨a4.1, by omega⟩, ⟨b4.1, b4.2⟩, ⟨b3.1, b3.2⟩⟩⟩,
    ⟨v3, sv3, bv4, iv, ⟨h2.inv, d1, d3, d2, fun i hi => ⟨ownsRow_keep (h2.rows i hi).1 hk (fun _ _ => id), fun g hg => .inr ((h2.rows i hi).2 g hg)⟩, e1, e2, ⟨d4.1, by omega⟩, fun g hg => ⟨(d5 g hg).1, by have := (d5 g hg).2; omega⟩, fun g hg => ⟨by have := (e4 g hg).1; omega, (e4 g hg).2⟩, fun i hi e => ?_, fun b hb => .inl hb, .inl ⟨by omega, e3.2⟩, fun g hg => .inl ⟨(d6 g hg).1, by have := (d6 g hg).2; omega⟩⟩⟩,
    fun b hb hc => ?_, fun b hb => ⟨by omega, .inr hb.1⟩, fun b hb => ?_, fun b hb => .inr (by omega), hk⟩
  · cases hb : bv4.ownBlock with
    | none =>
      have := own_block e2 (by have := h2.inv.nf0; omega)
      obtain ⟨g, cap, rest, hv, _⟩ := this
      rw [hv] at hb; cases hb
    | some g =>
      have h5 := (e4 g hb).1
      have h7 := h3 g ((h2.rows i hi).2 g (by rw [e, hb]))
      omega
  · rcases hc with hc | hc
    · omega
    · have := h3 b hc; omega
  · rcases hb with hb | hb
    · omega
    · have := h3 b hb; have := hk.size; omega
end
end Go.Proofs.Ytjlenocmfeggdaa
