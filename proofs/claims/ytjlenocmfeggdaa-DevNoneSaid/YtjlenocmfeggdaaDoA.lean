/- The walk of do. -/
import Derived.Test.YtjlenocmfeggdaaTwo
import Derived.Deep.RegionHeld3
namespace Go.Proofs.Ytjlenocmfeggdaa
open Go.RowKit
attribute [local go_sem] cell_alloc_some frozen_alloc_some
def xcells (D M R Q : Nat) : List Value := [.pointer (some ⟨D, 0, none⟩), .pointer (some ⟨M, 0, none⟩), .pointer (some ⟨R, 0, none⟩), .pointer (some ⟨Q, 0, none⟩)]
section
variable {a w : World} {D M R Q : Nat} {S : St} {G : Nat → Prop}
theorem box_cells (w : World) (xs ys : List Value) (a : World) (G : Nat → Prop) {V : World} {D M R Q : Nat} {S1 S2 : St} (h : Two ((w.alloc (.cells xs.toArray 29)).alloc (.cells ys.toArray 74)) V D M R Q S1 S2 (mid a w G)) : Blk V w.heap.size 29 xs ∧ Blk V (w.heap.size + 1) 74 ys := by
  have hx : Blk ((w.alloc (.cells xs.toArray 29)).alloc (.cells ys.toArray 74)) w.heap.size 29 xs := (Blk.new w 29 xs).alloc _
  have hy : Blk ((w.alloc (.cells xs.toArray 29)).alloc (.cells ys.toArray 74)) (w.heap.size + 1) 74 ys := by
    have := Blk.new (w.alloc (.cells xs.toArray 29)) 74 ys
    rw [World.size_alloc] at this
    exact this
  exact ⟨hx.keep h.keep (fun hm => by have := hm.2; omega), hy.keep h.keep (fun hm => by have := hm.2; omega)⟩
theorem eq_req2 (x : Req) (w : World) : (Op.equalIn 10000 44 (.agg #[.int .u32 x.id, .bool x.wr, .int .i64 x.sec, .int .i64 x.fr, .int .u8 x.own]) (.agg #[.int .u32 x.id, .bool x.wr, .int .i64 x.sec, .int .i64 x.fr, .int .u8 x.own])).run Try.prog w = .ok true w := eq_req x w
set_option maxRecDepth 100000 in
set_option maxHeartbeats 1000000 in
theorem do_ask (h : Two a w D M R Q S S G) (i rid rsec rfr rown : Int) (rwr : Bool) (A : Option Addr) (n cap : Nat) (hl : S.last ≤ 1000) :
    Calls Try.prog 34 #[.agg #[.pointer (some ⟨D, 0, none⟩), .pointer (some ⟨M, 0, none⟩), .pointer (some ⟨R, 0, none⟩), .pointer (some ⟨Q, 0, none⟩)], .agg #[.int .i64 0, .int .i64 i, .int .u32 rid, .bool rwr, .int .i64 rsec, .int .i64 rfr, .int .u8 rown, .slice A n cap]] w fun e w' => e = .returned (.bool true) ∧ Two a w' D M R Q (askS S ⟨rid, rwr, rsec, rfr, rown⟩) (askS S ⟨rid, rwr, rsec, rfr, rown⟩) G := by
  obtain ⟨a', ha'⟩ : ∃ a', a' = (w.alloc (.cells #[.pointer (some ⟨D, 0, none⟩), .pointer (some ⟨M, 0, none⟩), .pointer (some ⟨R, 0, none⟩), .pointer (some ⟨Q, 0, none⟩)] 29)).alloc (.cells #[.int .i64 0, .int .i64 i, .int .u32 rid, .bool rwr, .int .i64 rsec, .int .i64 rfr, .int .u8 rown, .slice A n cap] 74) := ⟨_, rfl⟩
  have hk0 : Keep none_ w a' := by rw [ha']; exact ((Keep.refl _ w).alloc _).alloc _
  have HEND : Hid (∀ {V : World} {S1 : St}, Two a' V D M R Q S1 S1 (mid a w G) → Two a V D M R Q S1 S1 G) := fun h2 => h2.leave hk0 h.keep
  have hE := h.enter hk0
  have HC : Hid (∀ {V : World} {S1 S2 : St}, Two a' V D M R Q S1 S2 (mid a w G) → Blk V w.heap.size 29 (xcells D M R Q) ∧ Blk V (w.heap.size + 1) 74 [.int .i64 0, .int .i64 i, .int .u32 rid, .bool rwr, .int .i64 rsec, .int .i64 rfr, .int .u8 rown, .slice A n cap]) := fun h2 => box_cells w (xcells D M R Q) [.int .i64 0, .int .i64 i, .int .u32 rid, .bool rwr, .int .i64 rsec, .int .i64 rfr, .int .u8 rown, .slice A n cap] a _ (by rw [ha'] at h2; exact h2)
  have HE := Lib.hid (hE.keep0 ((Keep.refl none_ a').drew))
  have HE0 := Lib.hid hE
  have HA := Lib.hid ha'
  have H1 : Hid (∀ (V : World), Two a' V D M R Q S S (mid a w G) → Calls Try.prog 16 #[.pointer (some ⟨D, 0, none⟩), .agg (reqc ⟨rid, rwr, rsec, rfr, rown⟩).toArray] V fun e w' => e = .returned (.tuple #[.int .u32 (askN S ⟨rid, rwr, rsec, rfr, rown⟩), .int .i64 (askE S ⟨rid, rwr, rsec, rfr, rown⟩)]) ∧ Two a' w' D M R Q (askS S ⟨rid, rwr, rsec, rfr, rown⟩) S (mid a w G)) := fun V h2 => h2.ask hl _
  have H2 : Hid (∀ (V : World), Two a' V D M R Q (askS S ⟨rid, rwr, rsec, rfr, rown⟩) S (mid a w G) → Calls Try.prog 60 #[.pointer (some ⟨R, 0, none⟩), .agg (reqc ⟨rid, rwr, rsec, rfr, rown⟩).toArray] V fun e w' => e = .returned (.tuple #[.int .u32 (askN S ⟨rid, rwr, rsec, rfr, rown⟩), .int .i64 (askE S ⟨rid, rwr, rsec, rfr, rown⟩)]) ∧ Two a' w' D M R Q (askS S ⟨rid, rwr, rsec, rfr, rown⟩) (askS S ⟨rid, rwr, rsec, rfr, rown⟩) (mid a w G)) := fun V h2 => h2.rask hl _
  clear h hE hk0 ha'
  generalize askN S ⟨rid, rwr, rsec, rfr, rown⟩ = en at *
  generalize askE S ⟨rid, rwr, rsec, rfr, rown⟩ = er at *
  generalize askS S ⟨rid, rwr, rsec, rfr, rown⟩ = S' at *
  unfold reqc at *
  go_enter Try.func34, Try.ntmps34
  go_wp2_with fail
  rw [← HA.out]
  refine (H1.out _ HE0.out).mono ?_
  rintro e w1 ⟨rfl, ht⟩
  have tx2 := (HC.out ht).1.cell_of (i := 2) rfl
  have ty2 := (HC.out ht).2.cell_of (i := 2) rfl
  have ty3 := (HC.out ht).2.cell_of (i := 3) rfl
  have ty4 := (HC.out ht).2.cell_of (i := 4) rfl
  have ty5 := (HC.out ht).2.cell_of (i := 5) rfl
  have ty6 := (HC.out ht).2.cell_of (i := 6) rfl
  have HT := Lib.hid ht
  clear ht
  go_wp2_with fail
  refine (H2.out _ HT.out).mono ?_
  rintro e w2 ⟨rfl, hu⟩
  have HU := Lib.hid hu
  clear hu tx2 ty2 ty3 ty4 ty5 ty6
  have e1 : (en == en) = true := by simp
  have e2 : (er == er) = true := by simp
  go_wp2
  go_ret
  exact ⟨rfl, HEND.out HU.out⟩
set_option maxRecDepth 100000 in
set_option maxHeartbeats 1000000 in
theorem do_deliver (h : Two a w D M R Q S S G) (i rid rsec rfr rown : Int) (rwr : Bool) (A : Option Addr) (n cap : Nat)  :
    Calls Try.prog 34 #[.agg #[.pointer (some ⟨D, 0, none⟩), .pointer (some ⟨M, 0, none⟩), .pointer (some ⟨R, 0, none⟩), .pointer (some ⟨Q, 0, none⟩)], .agg #[.int .i64 1, .int .i64 i, .int .u32 rid, .bool rwr, .int .i64 rsec, .int .i64 rfr, .int .u8 rown, .slice A n cap]] w fun e w' => e = .returned (.bool true) ∧ Two a w' D M R Q (delS S i) (delS S i) G := by
  obtain ⟨a', ha'⟩ : ∃ a', a' = (w.alloc (.cells #[.pointer (some ⟨D, 0, none⟩), .pointer (some ⟨M, 0, none⟩), .pointer (some ⟨R, 0, none⟩), .pointer (some ⟨Q, 0, none⟩)] 29)).alloc (.cells #[.int .i64 1, .int .i64 i, .int .u32 rid, .bool rwr, .int .i64 rsec, .int .i64 rfr, .int .u8 rown, .slice A n cap] 74) := ⟨_, rfl⟩
  have hk0 : Keep none_ w a' := by rw [ha']; exact ((Keep.refl _ w).alloc _).alloc _
  have HEND : Hid (∀ {V : World} {S1 : St}, Two a' V D M R Q S1 S1 (mid a w G) → Two a V D M R Q S1 S1 G) := fun h2 => h2.leave hk0 h.keep
  have hE := h.enter hk0
  have HC : Hid (∀ {V : World} {S1 S2 : St}, Two a' V D M R Q S1 S2 (mid a w G) → Blk V w.heap.size 29 (xcells D M R Q) ∧ Blk V (w.heap.size + 1) 74 [.int .i64 1, .int .i64 i, .int .u32 rid, .bool rwr, .int .i64 rsec, .int .i64 rfr, .int .u8 rown, .slice A n cap]) := fun h2 => box_cells w (xcells D M R Q) [.int .i64 1, .int .i64 i, .int .u32 rid, .bool rwr, .int .i64 rsec, .int .i64 rfr, .int .u8 rown, .slice A n cap] a _ (by rw [ha'] at h2; exact h2)
  have HE := Lib.hid (hE.keep0 ((Keep.refl none_ a').drew))
  have HE0 := Lib.hid hE
  have HA := Lib.hid ha'
  have H1 : Hid (∀ (V : World), Two a' V D M R Q S S (mid a w G) → Calls Try.prog 17 #[.pointer (some ⟨D, 0, none⟩), .int .i64 i, .pointer (some ⟨M, 0, none⟩)] V fun e w' => e = .returned (.tuple #[.agg (reqc (delR S i)).toArray, .int .i64 (delE S i)]) ∧ Two a' w' D M R Q (delS S i) S (mid a w G)) := fun V h2 => h2.deliver i
  have H2 : Hid (∀ {A' V : World} {G' : Nat → Prop}, Two A' V D M R Q (delS S i) S G' → Calls Try.prog 61 #[.pointer (some ⟨R, 0, none⟩), .int .i64 i, .pointer (some ⟨Q, 0, none⟩)] V fun e w' => e = .returned (.tuple #[.agg (reqc (delR S i)).toArray, .int .i64 (delE S i)]) ∧ Two A' w' D M R Q (delS S i) (delS S i) G') := fun h2 => h2.rdeliver i
  clear h hE hk0 ha'
  generalize delR S i = rr at *
  generalize delE S i = er at *
  generalize delS S i = S' at *
  have heq := eq_req2 rr
  obtain ⟨id, wr, sec, fr, own⟩ := rr
  unfold reqc at *
  simp only at heq
  go_enter Try.func34, Try.ntmps34
  go_wp2_with fail
  rw [← HA.out]
  refine (H1.out _ HE0.out).mono ?_
  rintro e w1 ⟨rfl, ht⟩
  have hka : Keep none_ w1 (w1.alloc (.cells #[.int .u32 id, .bool wr, .int .i64 sec, .int .i64 fr, .int .u8 own] 44)) := (Keep.refl _ w1).alloc _
  have ht' := ht.keep0 hka
  have tx2 := (HC.out ht').1.cell_of (i := 2) rfl
  have tx3 := (HC.out ht').1.cell_of (i := 3) rfl
  have ty1 := (HC.out ht').2.cell_of (i := 1) rfl
  have HT := Lib.hid (ht.enter hka)
  have HLV : Hid (∀ {V : World}, Two _ V D M R Q S' S' (mid a' w1 (mid a w G)) → Two a' V D M R Q S' S' (mid a w G)) := fun h2 => h2.leave hka ht.keep
  have HB1 : Hid (Blk (w1.alloc (.cells #[.int .u32 id, .bool wr, .int .i64 sec, .int .i64 fr, .int .u8 own] 44)) w1.heap.size 44 [.int .u32 id, .bool wr, .int .i64 sec, .int .i64 fr, .int .u8 own]) := Blk.new w1 44 _
  clear ht ht' hka
  go_wp2_with fail
  refine (H2.out HT.out).mono ?_
  rintro e w2 ⟨rfl, hu⟩
  have hb2 := HB1.out.keep hu.keep (fun hm => by have := hm.2; omega)
  have g0 := hb2.cell_of (i := 0) rfl
  have g1 := hb2.cell_of (i := 1) rfl
  have g2 := hb2.cell_of (i := 2) rfl
  have g3 := hb2.cell_of (i := 3) rfl
  have g4 := hb2.cell_of (i := 4) rfl
  have hu' := HLV.out hu
  have hlt : w1.heap.size < w2.heap.size := hb2.lt
  have HU : Hid (Two a' (w2.alloc (.cells #[.int .u32 id, .bool wr, .int .i64 sec, .int .i64 fr, .int .u8 own] 44)) D M R Q S' S' (mid a w G)) := hu'.keep0 ((Keep.refl _ w2).alloc _)
  have e2 : (er == er) = true := by simp
  clear hb2 hu hu' tx2 tx3 ty1
  go_wp2
  go_ret
  exact ⟨rfl, HEND.out HU.out⟩
set_option maxRecDepth 100000 in
set_option maxHeartbeats 1000000 in
theorem do_cancel (h : Two a w D M R Q S S G) (i rid rsec rfr rown : Int) (rwr : Bool) (A : Option Addr) (n cap : Nat)  :
    Calls Try.prog 34 #[.agg #[.pointer (some ⟨D, 0, none⟩), .pointer (some ⟨M, 0, none⟩), .pointer (some ⟨R, 0, none⟩), .pointer (some ⟨Q, 0, none⟩)], .agg #[.int .i64 2, .int .i64 i, .int .u32 rid, .bool rwr, .int .i64 rsec, .int .i64 rfr, .int .u8 rown, .slice A n cap]] w fun e w' => e = .returned (.bool true) ∧ Two a w' D M R Q (outS S (ofFrame i)) (outS S (ofFrame i)) G := by
  obtain ⟨a', ha'⟩ : ∃ a', a' = (w.alloc (.cells #[.pointer (some ⟨D, 0, none⟩), .pointer (some ⟨M, 0, none⟩), .pointer (some ⟨R, 0, none⟩), .pointer (some ⟨Q, 0, none⟩)] 29)).alloc (.cells #[.int .i64 2, .int .i64 i, .int .u32 rid, .bool rwr, .int .i64 rsec, .int .i64 rfr, .int .u8 rown, .slice A n cap] 74) := ⟨_, rfl⟩
  have hk0 : Keep none_ w a' := by rw [ha']; exact ((Keep.refl _ w).alloc _).alloc _
  have HEND : Hid (∀ {V : World} {S1 : St}, Two a' V D M R Q S1 S1 (mid a w G) → Two a V D M R Q S1 S1 G) := fun h2 => h2.leave hk0 h.keep
  have hE := h.enter hk0
  have HC : Hid (∀ {V : World} {S1 S2 : St}, Two a' V D M R Q S1 S2 (mid a w G) → Blk V w.heap.size 29 (xcells D M R Q) ∧ Blk V (w.heap.size + 1) 74 [.int .i64 2, .int .i64 i, .int .u32 rid, .bool rwr, .int .i64 rsec, .int .i64 rfr, .int .u8 rown, .slice A n cap]) := fun h2 => box_cells w (xcells D M R Q) [.int .i64 2, .int .i64 i, .int .u32 rid, .bool rwr, .int .i64 rsec, .int .i64 rfr, .int .u8 rown, .slice A n cap] a _ (by rw [ha'] at h2; exact h2)
  have HE := Lib.hid (hE.keep0 ((Keep.refl none_ a').drew))
  have HE0 := Lib.hid hE
  have HA := Lib.hid ha'
  have H1 : Hid (∀ (V : World), Two a' V D M R Q S S (mid a w G) → _) := fun V h2 => h2.cancels i
  have HLEN : Hid ((outL S (ofFrame i)).length ≤ 8) := by have h1 := List.length_filter_le (ofFrame i) S.q; have h2 := h.one.inv.q8; unfold outL; rw [List.length_map]; exact Nat.le_trans h1 h2
  clear h hE hk0 ha'
  generalize outS S (ofFrame i) = S' at *
  generalize outL S (ofFrame i) = l at *
  go_enter Try.func34, Try.ntmps34
  go_wp2_with fail
  rw [← HA.out]
  have dx0 := (HC.out HE.out).1.cell_of (i := 0) rfl
  have dx2 := (HC.out HE.out).1.cell_of (i := 2) rfl
  have dy1 := (HC.out HE.out).2.cell_of (i := 1) rfl
  go_region_held3 (fun X => X.cell? ⟨w.heap.size, 0, none⟩ = some (.pointer (some ⟨D, 0, none⟩)) ∧ X.cell? ⟨w.heap.size, 2, none⟩ = some (.pointer (some ⟨R, 0, none⟩)) ∧ X.cell? ⟨w.heap.size + 1, 1, none⟩ = some (.int .i64 i))
    (first | exact ⟨dx0, dx2, dy1⟩ | exact ⟨tx0, tx2, ty1⟩ | exact ⟨ux0, ux2, uy1⟩ | exact ⟨zx0, zx2, zy1⟩ | go_keep)
    (first
      | (go_at_call 19; refine Calls.mono (by exact H1.out _ HE.out) ?_; rintro e w1 ⟨⟨v1, rfl, hc⟩, ht⟩; have tx0 := (HC.out ht).1.cell_of (i := 0) rfl; have tx2 := (HC.out ht).1.cell_of (i := 2) rfl; have ty1 := (HC.out ht).2.cell_of (i := 1) rfl; have HC2 := Lib.hid hc; clear ht hc)
      | (go_at_call 63; refine Calls.mono (by exact HC2.out) ?_; rintro e w2 ⟨⟨v2, rfl, hi1, hi2⟩, hu⟩; have ux0 := (HC.out hu).1.cell_of (i := 0) rfl; have ux2 := (HC.out hu).1.cell_of (i := 2) rfl; have uy1 := (HC.out hu).2.cell_of (i := 1) rfl; have HI1 := Lib.hid hi1; have HI2 := Lib.hid hi2; have HU := Lib.hid hu; clear hu hi1 hi2)
      | (go_at_call 62; refine Calls.mono (by exact sameids_any _ _ _ _ _ _ _ HI1.out HI2.out (Nat.le_trans HLEN.out (by decide))) ?_; rintro e w3 ⟨rfl, hk3⟩; have hz := HU.out.keep0 hk3; have zx0 := (HC.out hz).1.cell_of (i := 0) rfl; have zx2 := (HC.out hz).1.cell_of (i := 2) rfl; have zy1 := (HC.out hz).2.cell_of (i := 1) rfl; have HZ := Lib.hid hz; clear hz hk3))
  go_wp2
  go_ret
  exact ⟨rfl, HEND.out HZ.out⟩
set_option maxRecDepth 100000 in
set_option maxHeartbeats 1000000 in
theorem do_drop (h : Two a w D M R Q S S G) (i rid rsec rfr rown : Int) (rwr : Bool) (A : Option Addr) (n cap : Nat)  :
    Calls Try.prog 34 #[.agg #[.pointer (some ⟨D, 0, none⟩), .pointer (some ⟨M, 0, none⟩), .pointer (some ⟨R, 0, none⟩), .pointer (some ⟨Q, 0, none⟩)], .agg #[.int .i64 3, .int .i64 i, .int .u32 rid, .bool rwr, .int .i64 rsec, .int .i64 rfr, .int .u8 rown, .slice A n cap]] w fun e w' => e = .returned (.bool true) ∧ Two a w' D M R Q (outS S (ofOwner rown)) (outS S (ofOwner rown)) G := by
  obtain ⟨a', ha'⟩ : ∃ a', a' = (w.alloc (.cells #[.pointer (some ⟨D, 0, none⟩), .pointer (some ⟨M, 0, none⟩), .pointer (some ⟨R, 0, none⟩), .pointer (some ⟨Q, 0, none⟩)] 29)).alloc (.cells #[.int .i64 3, .int .i64 i, .int .u32 rid, .bool rwr, .int .i64 rsec, .int .i64 rfr, .int .u8 rown, .slice A n cap] 74) := ⟨_, rfl⟩
  have hk0 : Keep none_ w a' := by rw [ha']; exact ((Keep.refl _ w).alloc _).alloc _
  have HEND : Hid (∀ {V : World} {S1 : St}, Two a' V D M R Q S1 S1 (mid a w G) → Two a V D M R Q S1 S1 G) := fun h2 => h2.leave hk0 h.keep
  have hE := h.enter hk0
  have HC : Hid (∀ {V : World} {S1 S2 : St}, Two a' V D M R Q S1 S2 (mid a w G) → Blk V w.heap.size 29 (xcells D M R Q) ∧ Blk V (w.heap.size + 1) 74 [.int .i64 3, .int .i64 i, .int .u32 rid, .bool rwr, .int .i64 rsec, .int .i64 rfr, .int .u8 rown, .slice A n cap]) := fun h2 => box_cells w (xcells D M R Q) [.int .i64 3, .int .i64 i, .int .u32 rid, .bool rwr, .int .i64 rsec, .int .i64 rfr, .int .u8 rown, .slice A n cap] a _ (by rw [ha'] at h2; exact h2)
  have HE := Lib.hid (hE.keep0 ((Keep.refl none_ a').drew))
  have HE0 := Lib.hid hE
  have HA := Lib.hid ha'
  have H1 : Hid (∀ (V : World), Two a' V D M R Q S S (mid a w G) → _) := fun V h2 => h2.drops rown
  have HLEN : Hid ((outL S (ofOwner rown)).length ≤ 8) := by have h1 := List.length_filter_le (ofOwner rown) S.q; have h2 := h.one.inv.q8; unfold outL; rw [List.length_map]; exact Nat.le_trans h1 h2
  clear h hE hk0 ha'
  generalize outS S (ofOwner rown) = S' at *
  generalize outL S (ofOwner rown) = l at *
  go_enter Try.func34, Try.ntmps34
  go_wp2_with fail
  rw [← HA.out]
  have dx0 := (HC.out HE.out).1.cell_of (i := 0) rfl
  have dx2 := (HC.out HE.out).1.cell_of (i := 2) rfl
  have dy6 := (HC.out HE.out).2.cell_of (i := 6) rfl
  go_region_held3 (fun X => X.cell? ⟨w.heap.size, 0, none⟩ = some (.pointer (some ⟨D, 0, none⟩)) ∧ X.cell? ⟨w.heap.size, 2, none⟩ = some (.pointer (some ⟨R, 0, none⟩)) ∧ X.cell? ⟨w.heap.size + 1, 6, none⟩ = some (.int .u8 rown))
    (first | exact ⟨dx0, dx2, dy6⟩ | exact ⟨tx0, tx2, ty6⟩ | exact ⟨ux0, ux2, uy6⟩ | exact ⟨zx0, zx2, zy6⟩ | go_keep)
    (first
      | (go_at_call 15; refine Calls.mono (by exact H1.out _ HE.out) ?_; rintro e w1 ⟨⟨v1, rfl, hc⟩, ht⟩; have tx0 := (HC.out ht).1.cell_of (i := 0) rfl; have tx2 := (HC.out ht).1.cell_of (i := 2) rfl; have ty6 := (HC.out ht).2.cell_of (i := 6) rfl; have HC2 := Lib.hid hc; clear ht hc)
      | (go_at_call 64; refine Calls.mono (by exact HC2.out) ?_; rintro e w2 ⟨⟨v2, rfl, hi1, hi2⟩, hu⟩; have ux0 := (HC.out hu).1.cell_of (i := 0) rfl; have ux2 := (HC.out hu).1.cell_of (i := 2) rfl; have uy6 := (HC.out hu).2.cell_of (i := 6) rfl; have HI1 := Lib.hid hi1; have HI2 := Lib.hid hi2; have HU := Lib.hid hu; clear hu hi1 hi2)
      | (go_at_call 62; refine Calls.mono (by exact sameids_any _ _ _ _ _ _ _ HI1.out HI2.out (Nat.le_trans HLEN.out (by decide))) ?_; rintro e w3 ⟨rfl, hk3⟩; have hz := HU.out.keep0 hk3; have zx0 := (HC.out hz).1.cell_of (i := 0) rfl; have zx2 := (HC.out hz).1.cell_of (i := 2) rfl; have zy6 := (HC.out hz).2.cell_of (i := 6) rfl; have HZ := Lib.hid hz; clear hz hk3))
  go_wp2
  go_ret
  exact ⟨rfl, HEND.out HZ.out⟩
theorem Bytes.keepG {w w' : World} {A : Option Addr} {n cap : Nat} {l : List UInt8} {G : Nat → Prop} (h : Bytes w (.slice A n cap) l) (hk : Keep G w w') (hG : ∀ ad, A = some ad → 0 < l.length → ¬ G ad.block) : Bytes w' (.slice A n cap) l := by
  obtain ⟨A', c, e, h1, h2⟩ := h
  injection e with e1 e2 e3
  subst e1 e2 e3
  refine ⟨A, cap, rfl, h1, ?_⟩
  rcases h2 with h2 | ⟨ad, rfl, hl, hc⟩
  · exact .inl h2
  · exact .inr ⟨ad, rfl, hl, fun j u hu => hk.cellS (hc j u hu) (by rw [show (ad.add j).block = ad.block by unfold Addr.add; split <;> rfl]; exact hG ad rfl (by have := (List.getElem?_eq_some_iff.1 hu).1; rw [List.length_map] at this; omega))⟩
set_option maxRecDepth 100000 in
set_option maxHeartbeats 1000000 in
theorem do_set (h : Two a w D M R Q S S G) (i rid rsec rfr rown : Int) (rwr : Bool) (A : Option Addr) (n cap : Nat) (b : List UInt8) (hb : Bytes a (.slice A n cap) b) (hG : ∀ ad, A = some ad → 0 < b.length → ¬ G ad.block) :
    Calls Try.prog 34 #[.agg #[.pointer (some ⟨D, 0, none⟩), .pointer (some ⟨M, 0, none⟩), .pointer (some ⟨R, 0, none⟩), .pointer (some ⟨Q, 0, none⟩)], .agg #[.int .i64 4, .int .i64 i, .int .u32 rid, .bool rwr, .int .i64 rsec, .int .i64 rfr, .int .u8 rown, .slice A n cap]] w fun e w' => e = .returned (.bool true) ∧ Two a w' D M R Q (setS S i b) (setS S i b) G := by
  obtain ⟨a', ha'⟩ : ∃ a', a' = (w.alloc (.cells #[.pointer (some ⟨D, 0, none⟩), .pointer (some ⟨M, 0, none⟩), .pointer (some ⟨R, 0, none⟩), .pointer (some ⟨Q, 0, none⟩)] 29)).alloc (.cells #[.int .i64 4, .int .i64 i, .int .u32 rid, .bool rwr, .int .i64 rsec, .int .i64 rfr, .int .u8 rown, .slice A n cap] 74) := ⟨_, rfl⟩
  have hk0 : Keep none_ w a' := by rw [ha']; exact ((Keep.refl _ w).alloc _).alloc _
  have HEND : Hid (∀ {V : World} {S1 : St}, Two a' V D M R Q S1 S1 (mid a w G) → Two a V D M R Q S1 S1 G) := fun h2 => h2.leave hk0 h.keep
  have hE := h.enter hk0
  have HC : Hid (∀ {V : World} {S1 S2 : St}, Two a' V D M R Q S1 S2 (mid a w G) → Blk V w.heap.size 29 (xcells D M R Q) ∧ Blk V (w.heap.size + 1) 74 [.int .i64 4, .int .i64 i, .int .u32 rid, .bool rwr, .int .i64 rsec, .int .i64 rfr, .int .u8 rown, .slice A n cap]) := fun h2 => box_cells w (xcells D M R Q) [.int .i64 4, .int .i64 i, .int .u32 rid, .bool rwr, .int .i64 rsec, .int .i64 rfr, .int .u8 rown, .slice A n cap] a _ (by rw [ha'] at h2; exact h2)
  have HE := Lib.hid (hE.keep0 ((Keep.refl none_ a').drew))
  have HE0 := Lib.hid hE
  have HA := Lib.hid ha'
  have hbb : ∀ {V : World} {S1 : St}, Two a' V D M R Q S1 S1 (mid a w G) → Bytes V (.slice A n cap) b := fun h2 => hb.keepG (h2.leave hk0 h.keep).keep hG
  have hb0 : ∀ {V : World} {S1 S2 : St}, Two a' V D M R Q S1 S2 (mid a w G) → Bytes V (.slice A n cap) b := fun h2 => hb.keepG (h2.leave hk0 h.keep).keep hG
  have H1 : Hid (∀ (V : World), Two a' V D M R Q S S (mid a w G) → Calls Try.prog 23 #[.pointer (some ⟨D, 0, none⟩), .int .i64 i, .slice A n cap] V fun e w' => e = .returned (.int .i64 (setE S i b)) ∧ Two a' w' D M R Q (setS S i b) S (mid a w G)) := fun V h2 => h2.set i _ b (hbb h2)
  have H2 : Hid (∀ (V : World), Two a' V D M R Q (setS S i b) S (mid a w G) → Calls Try.prog 65 #[.pointer (some ⟨R, 0, none⟩), .int .i64 i, .slice A n cap] V fun e w' => e = .returned (.int .i64 (setE S i b)) ∧ Two a' w' D M R Q (setS S i b) (setS S i b) (mid a w G)) := fun V h2 => h2.rset i _ b (hb0 h2)
  clear h hE hk0 ha'
  generalize setE S i b = er at *
  generalize setS S i b = S' at *
  have e2 : (er == er) = true := by simp
  go_enter Try.func34, Try.ntmps34
  go_wp2_with fail
  rw [← HA.out]
  have dx0 := (HC.out HE.out).1.cell_of (i := 0) rfl
  have dx2 := (HC.out HE.out).1.cell_of (i := 2) rfl
  have dy1 := (HC.out HE.out).2.cell_of (i := 1) rfl
  have dy7 := (HC.out HE.out).2.cell_of (i := 7) rfl
  go_region_held3 (fun X => X.cell? ⟨w.heap.size, 0, none⟩ = some (.pointer (some ⟨D, 0, none⟩)) ∧ X.cell? ⟨w.heap.size, 2, none⟩ = some (.pointer (some ⟨R, 0, none⟩)) ∧ X.cell? ⟨w.heap.size + 1, 1, none⟩ = some (.int .i64 i) ∧ X.cell? ⟨w.heap.size + 1, 7, none⟩ = some (.slice A n cap))
    (first | exact ⟨dx0, dx2, dy1, dy7⟩ | exact ⟨tx0, tx2, ty1, ty7⟩ | exact ⟨ux0, ux2, uy1, uy7⟩ | go_keep)
    (first
      | (go_at_call 23; refine Calls.mono (by exact H1.out _ HE.out) ?_; rintro e w1 ⟨rfl, ht⟩; have tx0 := (HC.out ht).1.cell_of (i := 0) rfl; have tx2 := (HC.out ht).1.cell_of (i := 2) rfl; have ty1 := (HC.out ht).2.cell_of (i := 1) rfl; have ty7 := (HC.out ht).2.cell_of (i := 7) rfl; have HT := Lib.hid ht; clear ht)
      | (go_at_call 65; refine Calls.mono (by exact H2.out _ HT.out) ?_; rintro e w2 ⟨rfl, hu⟩; have ux0 := (HC.out hu).1.cell_of (i := 0) rfl; have ux2 := (HC.out hu).1.cell_of (i := 2) rfl; have uy1 := (HC.out hu).2.cell_of (i := 1) rfl; have uy7 := (HC.out hu).2.cell_of (i := 7) rfl; have HU := Lib.hid hu; clear hu))
  go_wp2
  go_ret
  exact ⟨rfl, HEND.out HU.out⟩
end
end Go.Proofs.Ytjlenocmfeggdaa
