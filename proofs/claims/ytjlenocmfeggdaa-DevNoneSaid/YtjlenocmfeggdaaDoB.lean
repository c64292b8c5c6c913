/- The walk of do: a byte; whatever the deed. -/
import Derived.Test.YtjlenocmfeggdaaDoA
namespace Go.Proofs.Ytjlenocmfeggdaa
open Go.RowKit
attribute [local go_sem] cell_alloc_some frozen_alloc_some
section
variable {a w : World} {D M R Q : Nat} {S : St} {G : Nat → Prop}
set_option maxRecDepth 100000 in
set_option maxHeartbeats 1000000 in
theorem do_poke (h : Two a w D M R Q S S G) (i rid rsec rfr rown : Int) (rwr : Bool) (n cap : Nat) (ad : Addr) (c : UInt8) (hn : 0 < n) (hc : a.cell? (ad.add 0) = some (.int .u8 (c.toNat : Int))) (hG : ¬ G ad.block) :
    Calls Try.prog 34 #[.agg #[.pointer (some ⟨D, 0, none⟩), .pointer (some ⟨M, 0, none⟩), .pointer (some ⟨R, 0, none⟩), .pointer (some ⟨Q, 0, none⟩)], .agg #[.int .i64 5, .int .i64 i, .int .u32 rid, .bool rwr, .int .i64 rsec, .int .i64 rfr, .int .u8 rown, .slice (some ad) n cap]] w fun e w' => e = .returned (.bool true) ∧ Two a w' D M R Q (pokeS S i 0 c) (pokeS S i 0 c) G := by
  obtain ⟨a', ha'⟩ : ∃ a', a' = (w.alloc (.cells #[.pointer (some ⟨D, 0, none⟩), .pointer (some ⟨M, 0, none⟩), .pointer (some ⟨R, 0, none⟩), .pointer (some ⟨Q, 0, none⟩)] 29)).alloc (.cells #[.int .i64 5, .int .i64 i, .int .u32 rid, .bool rwr, .int .i64 rsec, .int .i64 rfr, .int .u8 rown, .slice (some ad) n cap] 74) := ⟨_, rfl⟩
  have hk0 : Keep none_ w a' := by rw [ha']; exact ((Keep.refl _ w).alloc _).alloc _
  have HEND : Hid (∀ {V : World} {S1 : St}, Two a' V D M R Q S1 S1 (mid a w G) → Two a V D M R Q S1 S1 G) := fun h2 => h2.leave hk0 h.keep
  have hE := h.enter hk0
  have HC : Hid (∀ {V : World} {S1 S2 : St}, Two a' V D M R Q S1 S2 (mid a w G) → Blk V w.heap.size 29 (xcells D M R Q) ∧ Blk V (w.heap.size + 1) 74 [.int .i64 5, .int .i64 i, .int .u32 rid, .bool rwr, .int .i64 rsec, .int .i64 rfr, .int .u8 rown, .slice (some ad) n cap]) := fun h2 => box_cells w (xcells D M R Q) [.int .i64 5, .int .i64 i, .int .u32 rid, .bool rwr, .int .i64 rsec, .int .i64 rfr, .int .u8 rown, .slice (some ad) n cap] a _ (by rw [ha'] at h2; exact h2)
  have HE := Lib.hid (hE.keep0 ((Keep.refl none_ a').drew))
  have HE0 := Lib.hid hE
  have HA := Lib.hid ha'
  have hadd : ad.add 0 = ad := by simp [Addr.add]
  have HBY : Hid (∀ {V : World} {S1 S2 : St}, Two a' V D M R Q S1 S2 (mid a w G) → V.cell? ad = some (.int .u8 (c.toNat : Int))) := fun h2 => by
    have h3 := (h2.leave hk0 h.keep).keep
    rw [hadd] at hc
    have h4 := h3.cellS hc hG
    exact h4
  have H1 : Hid (∀ (V : World), Two a' V D M R Q S S (mid a w G) → Calls Try.prog 12 #[.pointer (some ⟨M, 0, none⟩), .int .i64 i, .int .i64 0, .int .u8 (c.toNat : Int)] V fun e w' => e = .returned (.int .i64 (pokeE S i 0)) ∧ Two a' w' D M R Q (pokeS S i 0 c) S (mid a w G)) := fun V h2 => h2.poke i c
  have H2 : Hid (∀ (V : World), Two a' V D M R Q (pokeS S i 0 c) S (mid a w G) → Calls Try.prog 66 #[.pointer (some ⟨Q, 0, none⟩), .int .i64 i, .int .i64 0, .int .u8 (c.toNat : Int)] V fun e w' => e = .returned (.int .i64 (pokeE S i 0)) ∧ Two a' w' D M R Q (pokeS S i 0 c) (pokeS S i 0 c) (mid a w G)) := fun V h2 => h2.rpoke i c
  clear h hE hk0 ha'
  have hn2 : ((n : Int) > 0) := by omega
  have hn3 : (0 : Int) < (n : Int) := by omega
  have hn4 : 0 < n := hn
  generalize pokeE S i 0 = er at *
  generalize pokeS S i 0 c = S' at *
  have e2 : (er == er) = true := by simp
  clear hc hadd
  go_enter Try.func34, Try.ntmps34
  go_wp2_with fail
  rw [← HA.out]
  have dx1 := (HC.out HE.out).1.cell_of (i := 1) rfl
  have dx3 := (HC.out HE.out).1.cell_of (i := 3) rfl
  have dy1 := (HC.out HE.out).2.cell_of (i := 1) rfl
  have dy7 := (HC.out HE.out).2.cell_of (i := 7) rfl
  have db := HBY.out HE.out
  go_region_held3 (fun X => X.cell? ⟨w.heap.size, 1, none⟩ = some (.pointer (some ⟨M, 0, none⟩)) ∧ X.cell? ⟨w.heap.size, 3, none⟩ = some (.pointer (some ⟨Q, 0, none⟩)) ∧ X.cell? ⟨w.heap.size + 1, 1, none⟩ = some (.int .i64 i) ∧ X.cell? ⟨w.heap.size + 1, 7, none⟩ = some (.slice (some ad) n cap) ∧ X.cell? ad = some (.int .u8 (c.toNat : Int)))
    (first | exact ⟨dx1, dx3, dy1, dy7, db⟩ | exact ⟨tx1, tx3, ty1, ty7, tb⟩ | exact ⟨ux1, ux3, uy1, uy7, ub⟩ | go_keep)
    (first
      | (go_at_call 12; refine Calls.mono (by exact H1.out _ HE.out) ?_; rintro e w1 ⟨rfl, ht⟩; have tx1 := (HC.out ht).1.cell_of (i := 1) rfl; have tx3 := (HC.out ht).1.cell_of (i := 3) rfl; have ty1 := (HC.out ht).2.cell_of (i := 1) rfl; have ty7 := (HC.out ht).2.cell_of (i := 7) rfl; have tb := HBY.out ht; have HT := Lib.hid ht; clear ht)
      | (go_at_call 66; refine Calls.mono (by exact H2.out _ HT.out) ?_; rintro e w2 ⟨rfl, hu⟩; have ux1 := (HC.out hu).1.cell_of (i := 1) rfl; have ux3 := (HC.out hu).1.cell_of (i := 3) rfl; have uy1 := (HC.out hu).2.cell_of (i := 1) rfl; have uy7 := (HC.out hu).2.cell_of (i := 7) rfl; have ub := HBY.out hu; have HU := Lib.hid hu; clear hu))
  go_wp2
  go_ret
  exact ⟨rfl, HEND.out HU.out⟩
set_option maxRecDepth 100000 in
theorem do_none (h : Two a w D M R Q S S G) (op i rid rsec rfr rown : Int) (rwr : Bool) (A : Option Addr) (n cap : Nat) (h0 : ¬ op = 0) (h1 : ¬ op = 1) (h2 : ¬ op = 2) (h3 : ¬ op = 3) (h4 : ¬ op = 4) (h5 : ¬ op = 5 ∨ n = 0) :
    Calls Try.prog 34 #[.agg #[.pointer (some ⟨D, 0, none⟩), .pointer (some ⟨M, 0, none⟩), .pointer (some ⟨R, 0, none⟩), .pointer (some ⟨Q, 0, none⟩)], .agg #[.int .i64 op, .int .i64 i, .int .u32 rid, .bool rwr, .int .i64 rsec, .int .i64 rfr, .int .u8 rown, .slice A n cap]] w fun e w' => e = .returned (.bool true) ∧ Two a w' D M R Q S S G := by
  have HU : Hid (Two a ((w.alloc (.cells #[.pointer (some ⟨D, 0, none⟩), .pointer (some ⟨M, 0, none⟩), .pointer (some ⟨R, 0, none⟩), .pointer (some ⟨Q, 0, none⟩)] 29)).alloc (.cells #[.int .i64 op, .int .i64 i, .int .u32 rid, .bool rwr, .int .i64 rsec, .int .i64 rfr, .int .u8 rown, .slice A n cap] 74)) D M R Q S S G) := h.keep0 (((Keep.refl _ w).alloc _).alloc _)
  clear h
  have e0 : (op == 0) = false := by simpa using h0
  have e1 : (op == 1) = false := by simpa using h1
  have e2 : (op == 2) = false := by simpa using h2
  have e3 : (op == 3) = false := by simpa using h3
  have e4 : (op == 4) = false := by simpa using h4
  clear h0 h1 h2 h3 h4
  rcases h5 with h5 | rfl
  · have e5 : (op == 5) = false := by simpa using h5
    clear h5
    go_enter Try.func34, Try.ntmps34
    go_wp2
    go_ret
    exact ⟨rfl, HU.out⟩
  · by_cases h5 : op = 5
    · subst h5
      clear e0 e1 e2 e3 e4
      go_enter Try.func34, Try.ntmps34
      go_wp2
      go_ret
      exact ⟨rfl, HU.out⟩
    · have e5 : (op == 5) = false := by simpa using h5
      clear h5
      go_enter Try.func34, Try.ntmps34
      go_wp2
      go_ret
      exact ⟨rfl, HU.out⟩
theorem do_any (h : Two a w D M R Q S S G) (hl : S.last ≤ 1000) (d : Deed) (hb : Bytes a d.bv d.b) (hG : ∀ ad n c, d.bv = .slice (some ad) n c → 0 < n → ¬ G ad.block) :
    Calls Try.prog 34 #[.agg (xcells D M R Q).toArray, .agg (dcells d).toArray] w fun e w' => e = .returned (.bool true) ∧ Two a w' D M R Q (doS S d) (doS S d) G := by
  obtain ⟨op, i, ⟨rid, rwr, rsec, rfr, rown⟩, b, bv⟩ := d
  obtain ⟨A, cap, hbv, hmax, hh⟩ := hb
  simp only at hbv
  subst hbv
  have hG' : ∀ ad, A = some ad → 0 < b.length → ¬ G ad.block := fun ad e => hG ad _ _ (by rw [e])
  have hb : Bytes a (.slice A b.length cap) b := ⟨A, cap, rfl, hmax, hh⟩
  unfold doS
  simp only
  by_cases h0 : op = 0
  · subst h0; rw [if_pos rfl]; exact do_ask h i rid rsec rfr rown rwr A b.length cap hl
  · rw [if_neg h0]
    by_cases h1 : op = 1
    · subst h1; rw [if_pos rfl]; exact do_deliver h i rid rsec rfr rown rwr A b.length cap
    · rw [if_neg h1]
      by_cases h2 : op = 2
      · subst h2; rw [if_pos rfl]; exact do_cancel h i rid rsec rfr rown rwr A b.length cap
      · rw [if_neg h2]
        by_cases h3 : op = 3
        · subst h3; rw [if_pos rfl]; exact do_drop h i rid rsec rfr rown rwr A b.length cap
        · rw [if_neg h3]
          by_cases h4 : op = 4
          · subst h4; rw [if_pos rfl]; exact do_set h i rid rsec rfr rown rwr A b.length cap b hb hG'
          · rw [if_neg h4]
            by_cases h5 : op = 5
            · subst h5
              rw [if_pos rfl]
              match b, hb, hh with
              | [], _, _ => rw [if_pos rfl]; exact do_none h 5 i rid rsec rfr rown rwr A 0 cap h0 h1 h2 h3 h4 (.inr rfl)
              | c :: bs, hb, hh =>
                rw [if_neg (by simp)]
                rcases hh with ⟨_, hz, _⟩ | ⟨ad, hA, _, hc⟩
                · simp at hz
                · subst hA; exact do_poke h i rid rsec rfr rown rwr (c :: bs).length cap ad c (by simp) (hc 0 _ rfl) (hG' ad rfl (by simp))
            · rw [if_neg h5]; exact do_none h op i rid rsec rfr rown rwr A b.length cap h0 h1 h2 h3 h4 (.inl h5)
end
end Go.Proofs.Ytjlenocmfeggdaa
