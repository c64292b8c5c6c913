/- The document's Deliver: what it keeps on its way. -/
import Derived.Test.YtjlenocmfeggdaaRefG
import Derived.Test.YtjlenocmfeggdaaRefB
import Derived.Test.YtjlenocmfeggdaaImpH
namespace Go.Proofs.Ytjlenocmfeggdaa
open Go.RowKit
attribute [local go_sem] cell_alloc_some frozen_alloc_some
/-- on the way: the result's block at w.heap.size, the request's at bx -/
structure RMid (w V : World) (R M : Nat) (S : St) (sv bv : Value) (W F : Nat → Prop) (r : Req) (bx : Nat) : Prop where
  rep : ∃ v' iv' F', RepR V R M S v' sv bv iv' W F' ∧ ∀ b, F' b → (F b ∨ bx < b) ∧ b < V.heap.size
  res : Blk V w.heap.size 44 zero44c
  box : Blk V bx 44 (reqc r)
  lo : w.heap.size < bx
  keep : Keep W w V
section
variable {w V V' : World} {R M : Nat} {S S' : St} {sv bv : Value} {W F : Nat → Prop} {r : Req} {bx : Nat}
theorem RMid.keep0 (h : RMid w V R M S sv bv W F r bx) (hk : Keep none_ V V') : RMid w V' R M S sv bv W F r bx := by
  obtain ⟨⟨v', iv', F', h1, hf⟩, h2, h3, h4, h5⟩ := h
  exact ⟨⟨v', iv', F', h1.keep0 hk, fun b hb => ⟨(hf b hb).1, Nat.lt_of_lt_of_le (hf b hb).2 hk.size⟩⟩, h2.keep hk id, h3.keep hk id, h4, h5.thenF hk (fun _ hx => hx.elim)⟩
/-- a step of the document's tables -/
theorem RMid.step (h : RMid w V R M S sv bv W F r bx) (hW : ∀ b, W b → b < w.heap.size) {G : Nat → Prop} (hG : ∀ b, G b → W b) (hk : Keep G V V') (hr : ∃ v' iv' F', RepR V' R M S' v' sv bv iv' W F' ∧ ∀ b, F' b → (F b ∨ bx < b) ∧ b < V'.heap.size) : RMid w V' R M S' sv bv W F r bx := by
  obtain ⟨_, h2, h3, h4, h5⟩ := h
  exact ⟨hr, h2.keep hk (fun e => by have := hW _ (hG _ e); omega), h3.keep hk (fun e => by have := hW _ (hG _ e); omega), h4, h5.thenF hk (fun x hx => .inl (hG x hx))⟩
theorem RMid.done (h : RMid w V R M S sv bv W F r bx) (hFl : ∀ b, F b → b < w.heap.size) : (∃ v' iv', RepR (fin5 V w.heap.size r) R M S v' sv bv iv' W (ext F w (fin5 V w.heap.size r))) ∧ Blk (fin5 V w.heap.size r) w.heap.size 44 (reqc r) ∧ Keep W w (fin5 V w.heap.size r) := by
  obtain ⟨⟨v', iv', F', h1, hf⟩, h2, h3, h4, h5⟩ := h
  have hk : Keep (· = w.heap.size) V (fin5 V w.heap.size r) :=
    (((((Keep.refl (· = w.heap.size) V).setCell (p := ⟨w.heap.size, 0, none⟩) (.inl rfl) _).setCell (p := ⟨w.heap.size, 1, none⟩) (.inl rfl) _).setCell (p := ⟨w.heap.size, 2, none⟩) (.inl rfl) _).setCell (p := ⟨w.heap.size, 3, none⟩) (.inl rfl) _).setCell (p := ⟨w.heap.size, 4, none⟩) (.inl rfl) _
  have h6 := h1.keep hk (fun b hb e => by
    rcases (hf b hb).1 with hb' | hb'
    · have := hFl b hb'; omega
    · omega)
  have key : ∀ b, F' b → ext F w (fin5 V w.heap.size r) b := fun b hb => by
    rcases (hf b hb).1 with hb' | hb'
    · exact .inl hb'
    · exact .inr ⟨by omega, Nat.lt_of_lt_of_le (hf b hb).2 hk.size⟩
  exact ⟨⟨v', iv', h6.more key (fun _ hb => hb) (fun b hb => key b (h1.wF b hb))⟩, ((((h2.set_ 0 (.int .u32 r.id)).set_ 1 (.bool r.wr)).set_ 2 (.int .i64 r.sec)).set_ 3 (.int .i64 r.fr)).set_ 4 (.int .u8 r.own), h5.thenF hk (fun x hx => .inr (by subst hx; exact Nat.le_refl _))⟩
set_option maxRecDepth 100000 in
set_option maxHeartbeats 1000000 in
theorem rdeliver_out {v : Value} {iv : Nat → Value} (h : RepR w R M S v sv bv iv W F) (i : Int) (hi : i < 0 ∨ (S.q.length : Int) ≤ i) :
    Calls Try.prog 61 #[.pointer (some ⟨R, 0, none⟩), .int .i64 i, .pointer (some ⟨M, 0, none⟩)] w fun e w' => e = .returned (.tuple #[.agg (reqc zeroR).toArray, .int .i64 2]) ∧ Keep none_ w w' := by
  obtain ⟨A, cap, rfl⟩ := h.rlenQ
  have c1 := h.disk.cell_of (i := 1) rfl
  have hz := Blk.new w 44 zero44c
  have z0 := hz.cell_of (i := 0) rfl
  have z1 := hz.cell_of (i := 1) rfl
  have z2 := hz.cell_of (i := 2) rfl
  have z3 := hz.cell_of (i := 3) rfl
  have z4 := hz.cell_of (i := 4) rfl
  have f0 := hz.frozen 0
  have f1 := hz.frozen 1
  have f2 := hz.frozen 2
  have f3 := hz.frozen 3
  have f4 := hz.frozen 4
  have hq8 := h.inv.q8
  have HN := Lib.hid hi
  clear h hz hi
  unfold zero44c at *
  generalize S.q.length = n at *
  have hn : (n : Int) ≤ 8 := by omega
  go_enter Try.func61, Try.ntmps61
  go_wp2
  all_goals first
    | (exfalso; have := HN.out; omega)
    | exact bodyPost_ret (v := .tuple #[.agg #[.int .u32 0, .bool false, .int .i64 0, .int .i64 0, .int .u8 0], .int .i64 2]) (by simp [results, Try.results61, go_sem]) rfl ⟨rfl, (Keep.refl _ w).alloc _⟩
end
end Go.Proofs.Ytjlenocmfeggdaa
