/- The walk of Deliver. -/
import Derived.Test.YtjlenocmfeggdaaImpG
import Derived.Deep.RegionHeld3
namespace Go.Proofs.Ytjlenocmfeggdaa
open Go.RowKit
attribute [local go_sem] cell_alloc_some frozen_alloc_some
def zero44c : List Value := [.int .u32 0, .bool false, .int .i64 0, .int .i64 0, .int .u8 0]
section
variable {w w' : World} {D M : Nat} {S : St} {v : Value} {sb fb : Nat} {T : Tl} {F : Nat → Prop}
set_option maxRecDepth 100000 in
set_option maxHeartbeats 1000000 in
theorem deliver_out (h : RepT w D M S v sb fb T F) (i : Int) (hi : i < 0 ∨ (S.q.length : Int) ≤ i) :
    Calls Try.prog 17 #[.pointer (some ⟨D, 0, none⟩), .int .i64 i, .pointer (some ⟨M, 0, none⟩)] w fun e w' => e = .returned (.tuple #[.agg (reqc zeroR).toArray, .int .i64 2]) ∧ Keep none_ w w' := by
  obtain ⟨A, cap, rfl⟩ := h.lenQ
  have c0 := h.disk.cell_of (i := 0) rfl
  have hz := Blk.new w 44 zero44c
  have z0 := hz.cell_of (i := 0) rfl
  have z1 := hz.cell_of (i := 1) rfl
  have z2 := hz.cell_of (i := 2) rfl
  have z3 := hz.cell_of (i := 3) rfl
  have z4 := hz.cell_of (i := 4) rfl
  have f0 := hz.frozen 0
  have f1 := hz.frozen 1
  have f2 := hz.frozen 2
  have f3 := hz.frozen 3
  have f4 := hz.frozen 4
  have hq8 := h.inv.q8
  have HN := Lib.hid hi
  clear h hz hi
  unfold zero44c at *
  generalize S.q.length = n at *
  have hn : (n : Int) ≤ 8 := by omega
  go_enter Try.func17, Try.ntmps17
  go_wp2
  all_goals first
    | (exfalso; have := HN.out; omega)
    | exact bodyPost_ret (v := .tuple #[.agg #[.int .u32 0, .bool false, .int .i64 0, .int .i64 0, .int .u8 0], .int .i64 2]) (by simp [results, Try.results17, go_sem]) rfl ⟨rfl, (Keep.refl _ w).alloc _⟩
/-- behind pop: the result's block at b0, the request's at bx -/
structure Mid (w W : World) (D M : Nat) (S : St) (sb fb : Nat) (T : Tl) (F : Nat → Prop) (r : Req) (bx : Nat) : Prop where
  rep : ∃ v', RepT W D M S v' sb fb T F
  res : Blk W w.heap.size 44 zero44c
  box : Blk W bx 44 (reqc r)
  lo : w.heap.size < bx
  keep : Keep F w W
theorem Mid.keep0 {W W' : World} {r : Req} {bx : Nat} (h : Mid w W D M S sb fb T F r bx) (hk : Keep none_ W W') : Mid w W' D M S sb fb T F r bx := by
  obtain ⟨⟨v', h1⟩, h2, h3, h4, h5⟩ := h
  exact ⟨⟨v', h1.keep0 hk⟩, h2.keep hk id, h3.keep hk id, h4, h5.thenF hk (fun _ hx => hx.elim)⟩
/-- what is stored in the result -/
def fin5 (W : World) (b : Nat) (r : Req) : World := ((((W.setCell ⟨b, 0, none⟩ (.int .u32 r.id)).setCell ⟨b, 1, none⟩ (.bool r.wr)).setCell ⟨b, 2, none⟩ (.int .i64 r.sec)).setCell ⟨b, 3, none⟩ (.int .i64 r.fr)).setCell ⟨b, 4, none⟩ (.int .u8 r.own)
theorem Mid.fin {W : World} {r : Req} {bx : Nat} (h : Mid w W D M S sb fb T F r bx) (hFl : ∀ b, F b → b < w.heap.size) : (∃ v', RepT (fin5 W w.heap.size r) D M S v' sb fb T F) ∧ Blk (fin5 W w.heap.size r) w.heap.size 44 (reqc r) ∧ Keep F w (fin5 W w.heap.size r) := by
  obtain ⟨⟨v', h1⟩, h2, h3, h4, h5⟩ := h
  have hk : Keep (· = w.heap.size) W (fin5 W w.heap.size r) :=
    (((((Keep.refl (· = w.heap.size) W).setCell (p := ⟨w.heap.size, 0, none⟩) (.inl rfl) _).setCell (p := ⟨w.heap.size, 1, none⟩) (.inl rfl) _).setCell (p := ⟨w.heap.size, 2, none⟩) (.inl rfl) _).setCell (p := ⟨w.heap.size, 3, none⟩) (.inl rfl) _).setCell (p := ⟨w.heap.size, 4, none⟩) (.inl rfl) _
  exact ⟨⟨v', h1.keep hk (fun b hb e => by have := hFl b hb; omega)⟩, ((((h2.set_ 0 (.int .u32 r.id)).set_ 1 (.bool r.wr)).set_ 2 (.int .i64 r.sec)).set_ 3 (.int .i64 r.fr)).set_ 4 (.int .u8 r.own), h5.thenF hk (fun x hx => .inr (by subst hx; exact Nat.le_refl _))⟩
theorem pop_mid (h : RepT w D M S v sb fb T F) (hFl : ∀ b, F b → b < w.heap.size) (i : Nat) (hi : i < S.q.length) (r : Req) (hr : S.q[i]? = some r) :
    Calls Try.prog 44 #[.pointer (some ⟨D, 0, none⟩), .int .i64 i] (w.alloc (.cells zero44c.toArray 44)) fun e w1 => e = .returned (.agg (reqc r).toArray) ∧ Mid w (w1.alloc (.cells (reqc r).toArray 44)) D M (S.pop i) sb fb T F r w1.heap.size := by
  have hk0 : Keep none_ w (w.alloc (.cells zero44c.toArray 44)) := (Keep.refl _ w).alloc _
  refine (pop_any (h.keep0 hk0) (fun b hb => Nat.lt_of_lt_of_le (hFl b hb) hk0.size) i hi r hr).mono ?_
  rintro e w1 ⟨rfl, ⟨v', hr1⟩, hk1⟩
  have hs1 := hk1.size
  rw [World.size_alloc] at hs1
  have hk2 : Keep none_ w1 (w1.alloc (.cells (reqc r).toArray 44)) := (Keep.refl _ w1).alloc _
  refine ⟨rfl, ⟨v', hr1.keep0 hk2⟩, (Blk.new w 44 zero44c).keep (hk1.thenF hk2 (fun _ hx => hx.elim)) (fun hx => by have := hFl _ hx; omega), Blk.new w1 44 (reqc r), hs1, ((hk0.mono (S' := F) (fun _ hx => hx.elim)).trans hk1).thenF hk2 (fun _ hx => hx.elim)⟩
set_option maxRecDepth 100000 in
set_option maxHeartbeats 1000000 in
theorem deliver_fault (h : RepT w D M S v sb fb T F) (hFl : ∀ b, F b → b < w.heap.size) (i : Nat) (hi : i < S.q.length) (r : Req) (hr : S.q[i]? = some r) (hf : (S.nf : Int) ≤ r.fr) :
    Calls Try.prog 17 #[.pointer (some ⟨D, 0, none⟩), .int .i64 i, .pointer (some ⟨M, 0, none⟩)] w fun e w' => e = .returned (.tuple #[.agg (reqc r).toArray, .int .i64 10]) ∧ (∃ v', RepT w' D M (S.pop i) v' sb fb T F) ∧ Keep F w w' := by
  have H1 := Lib.hid (pop_mid h hFl i hi r hr)
  obtain ⟨A, cap, rfl⟩ := h.lenQ
  have c0 := h.disk.cell_of (i := 0) rfl
  have hq8 := h.inv.q8
  have H2 : Hid (∀ {W : World} {bx : Nat}, Mid w W D M (S.pop i) sb fb T F r bx → Calls Try.prog 13 #[.pointer (some ⟨M, 0, none⟩), .int .i64 r.fr] W fun e w' => e = .returned (.tuple #[.slice none 0 0, .int .i64 2]) ∧ W = w') := fun hm => by
    obtain ⟨v', hrep⟩ := hm.rep
    exact frame_err hrep r.fr (.inr hf)
  have HF : Hid (∀ {W : World} {bx : Nat}, Mid w W D M (S.pop i) sb fb T F r bx → _) := fun hm => hm.fin hFl
  clear h hr hFl
  generalize S.pop i = S1 at *
  generalize S.q.length = n at *
  have hn : (n : Int) ≤ 8 := by omega
  have i0 : ¬ ((i : Int) < 0) := by omega
  have i1 : ¬ ((i : Int) ≥ n) := by omega
  have i2 : (i : Int) ≤ 8 := by omega
  obtain ⟨rid, rwr, rsec, rfr, rown⟩ := r
  unfold reqc zero44c at *
  simp only at hf H2
  go_enter Try.func17, Try.ntmps17
  go_wp2_with fail
  refine H1.out.mono ?_
  rintro e w1 ⟨rfl, hm⟩
  have HM := Lib.hid hm
  have x3 := hm.box.cell_of (i := 3) rfl
  clear hm H1
  go_wp2_with fail
  refine (H2.out HM.out).mono ?_
  rintro e w2 ⟨rfl, rfl⟩
  have x0 := HM.out.box.cell_of (i := 0) rfl
  have x1 := HM.out.box.cell_of (i := 1) rfl
  have x2 := HM.out.box.cell_of (i := 2) rfl
  have x4 := HM.out.box.cell_of (i := 4) rfl
  have z0 := HM.out.res.cell_of (i := 0) rfl
  have z1 := HM.out.res.cell_of (i := 1) rfl
  have z2 := HM.out.res.cell_of (i := 2) rfl
  have z3 := HM.out.res.cell_of (i := 3) rfl
  have z4 := HM.out.res.cell_of (i := 4) rfl
  have f0 := HM.out.res.frozen 0
  have f1 := HM.out.res.frozen 1
  have f2 := HM.out.res.frozen 2
  have f3 := HM.out.res.frozen 3
  have f4 := HM.out.res.frozen 4
  go_wp2
  obtain ⟨hR, hB, hK⟩ := HF.out HM.out
  unfold fin5 at hR hB hK
  have v0 := hB.cell_of (i := 0) rfl
  have v1 := hB.cell_of (i := 1) rfl
  have v2 := hB.cell_of (i := 2) rfl
  have v3 := hB.cell_of (i := 3) rfl
  have v4 := hB.cell_of (i := 4) rfl
  exact bodyPost_ret (v := .tuple #[.agg #[.int .u32 rid, .bool rwr, .int .i64 rsec, .int .i64 rfr, .int .u8 rown], .int .i64 10]) (by simp [results, Try.results17, go_sem, v0, v1, v2, v3, v4]) rfl ⟨rfl, hR, hK⟩
end
end Go.Proofs.Ytjlenocmfeggdaa
