/- The walk of pop. -/
import Derived.Test.YtjlenocmfeggdaaImpE
namespace Go.Proofs.Ytjlenocmfeggdaa
open Go.RowKit
attribute [local go_sem] cell_alloc_some frozen_alloc_some
section
variable {w w' : World} {D M : Nat} {S : St} {v : Value} {sb fb : Nat} {T : Tl} {F : Nat → Prop}
theorem RepT.slot (h : RepT w D M S v sb fb T F) {i : Nat} (hi : i < S.q.length) : ∃ g cap r, v = .slice (some ⟨g, 0, none⟩) S.q.length cap ∧ S.q[i]? = some r ∧ w.cell? ⟨g, i * 5, none⟩ = some (.int .u32 r.id) ∧ w.cell? ⟨g, i * 5 + 1, none⟩ = some (.bool r.wr) ∧ w.cell? ⟨g, i * 5 + 2, none⟩ = some (.int .i64 r.sec) ∧ w.cell? ⟨g, i * 5 + 3, none⟩ = some (.int .i64 r.fr) ∧ w.cell? ⟨g, i * 5 + 4, none⟩ = some (.int .u8 r.own) ∧ S.q.length ≤ cap ∧ cap ≤ maxLen := by
  obtain ⟨g, cap, hv, _, _⟩ := h.que.form (by omega)
  subst hv
  obtain ⟨A', cap', hv', h1, h2⟩ := own_form h.que
  injection hv' with _ _ e3
  subst e3
  have hr : S.q[i]? = some S.q[i] := List.getElem?_eq_getElem hi
  have key : ∀ j u, (reqc S.q[i])[j]? = some u → w.cell? ⟨g, i * 5 + j, none⟩ = some u := fun j u hj => by
    have := ownsRow_cell h.que (flatQ_get S.q i S.q[i] j u hr hj)
    rw [Addr.add_mid, Nat.zero_add] at this
    exact this
  exact ⟨g, cap, S.q[i], rfl, hr, key 0 _ rfl, key 1 _ rfl, key 2 _ rfl, key 3 _ rfl, key 4 _ rfl, h1, h2⟩
set_option maxRecDepth 100000 in
set_option maxHeartbeats 1000000 in
theorem pop_any (h : RepT w D M S v sb fb T F) (hFl : ∀ b, F b → b < w.heap.size) (i : Nat) (hi : i < S.q.length) (r : Req) (hr : S.q[i]? = some r) :
    Calls Try.prog 44 #[.pointer (some ⟨D, 0, none⟩), .int .i64 i] w fun e w' => e = .returned (.agg (reqc r).toArray) ∧ (∃ v', RepT w' D M (S.pop i) v' sb fb T F) ∧ Keep F w w' := by
  have hq8 := h.inv.q8
  obtain ⟨g, cap, r', rfl, hr', c0, c1, c2, c3, c4, hcap1, hcap2⟩ := h.slot hi
  rw [hr] at hr'
  injection hr' with hr'
  subst hr'
  obtain ⟨m, hm⟩ : ∃ m, S.q.length = m + 1 := ⟨S.q.length - 1, by omega⟩
  have d0 := h.disk.cell_of (i := 0) rfl
  have y0 := h.disk.frozen 0
  have hDlt := h.disk.lt
  have hql := h.que
  have HEND : Hid (∀ {W W2 : World}, Keep none_ w W → W2.ownsRow 0 44 5 (.slice (some ⟨g, 0, none⟩) m cap) m (flatQ (S.q.eraseIdx i)) → Keep (· = g) W W2 → RepT (W2.setCell ⟨D, 0, none⟩ (.slice (some ⟨g, 0, none⟩) m cap)) D M (S.pop i) (.slice (some ⟨g, 0, none⟩) m cap) sb fb T F ∧ Keep F w (W2.setCell ⟨D, 0, none⟩ (.slice (some ⟨g, 0, none⟩) m cap)) ∧ W2.cell? ⟨D, 0, none⟩ = some (.slice (some ⟨g, 0, none⟩) S.q.length cap) ∧ W2.frozen? ⟨D, 0, none⟩ = false) := by
    intro W W2 k0 ho k1
    have h1 := h.keep0 k0
    have hgb : ∀ {b t : Nat} {cs : List Value}, Blk w b t cs → t ≠ 44 → b ≠ g := fun hb ht e => own_ne h.que hb (Ne.symm ht) (by rw [e]; rfl)
    have hD2 := h1.disk.keep k1 (hgb h.disk (by decide))
    have kD : Keep (· = D) W2 (W2.setCell ⟨D, 0, none⟩ (.slice (some ⟨g, 0, none⟩) m cap)) := Keep.setCell (S := (· = D)) (p := ⟨D, 0, none⟩) (Keep.refl _ W2) (.inl rfl) _
    have kp : ∀ {b t : Nat} {cs : List Value}, Blk w b t cs → t ≠ 44 → t ≠ 92 → Blk (W2.setCell ⟨D, 0, none⟩ (.slice (some ⟨g, 0, none⟩) m cap)) b t cs := fun hb n1 n2 => ((hb.keep k0 id).keep k1 (hgb hb n1)).keep kD (hb.ne_ h.disk n2)
    refine ⟨⟨h.inv.pop i, hD2.set_ 0 _, ?_, kp h.secs (by decide) (by decide), kp h.mem (by decide) (by decide), kp h.frs (by decide) (by decide), h.footD, fun x hx => h.footQ x hx, h.footS, h.footM, h.footF⟩, ?_, hD2.cell_of rfl, hD2.frozen 0⟩
    · have e : (S.pop i).q.length = m := by show (S.q.eraseIdx i).length = m; rw [List.length_eraseIdx_of_lt hi]; omega
      rw [e]
      exact ownsRow_keep ho kD (fun x hx e => hgb h.disk (by decide) (by injection hx with hx; exact e.symm.trans hx.symm))
    · exact ((k0.mono (S' := F) (fun _ hx => hx.elim)).thenF k1 (fun x hx => .inl (by subst hx; exact h.footQ _ rfl))).thenF kD (fun x hx => .inl (by subst hx; exact h.footD))
  obtain ⟨rid, rwr, rsec, rfr, rown⟩ := r
  unfold reqc
  simp only at c0 c1 c2 c3 c4
  have HQL : Hid (∀ W, Keep none_ w W → W.ownsRow 0 44 5 (.slice (some ⟨g, 0, none⟩) (m + 1) cap) (m + 1) (flatQ S.q)) := fun W hk => by have := ownsRow_keep hql hk (fun _ _ => id); rw [hm] at this; exact this
  rw [hm] at d0 HEND hcap1
  have hmi : i ≤ m := by omega
  have hm8 : m ≤ 1000 := by omega
  have HFL := Lib.hid hFl
  clear h hql hm hi hr hq8 hFl
  have i0 : (0 : Int) ≤ (i : Int) := by omega
  have i1 : (i : Int) < ((m + 1 : Nat) : Int) := by omega
  have i2 : (i : Int) ≤ 1000 := by omega
  go_enter Try.func44, Try.ntmps44
  go_wp2_with fail
  have hk0 : Keep none_ w ((w.alloc (.cells #[.int .u32 0, .bool false, .int .i64 0, .int .i64 0, .int .u8 0] 44)).alloc (.cells #[.int .u32 rid, .bool rwr, .int .i64 rsec, .int .i64 rfr, .int .u8 rown] 44)) := ((Keep.refl none_ w).alloc _).alloc _
  have hx : Blk ((w.alloc (.cells #[.int .u32 0, .bool false, .int .i64 0, .int .i64 0, .int .u8 0] 44)).alloc (.cells #[.int .u32 rid, .bool rwr, .int .i64 rsec, .int .i64 rfr, .int .u8 rown] 44)) (w.heap.size + 1) 44 [.int .u32 rid, .bool rwr, .int .i64 rsec, .int .i64 rfr, .int .u8 rown] := by
    have := Blk.new (w.alloc (.cells #[.int .u32 0, .bool false, .int .i64 0, .int .i64 0, .int .u8 0] 44)) 44 [.int .u32 rid, .bool rwr, .int .i64 rsec, .int .i64 rfr, .int .u8 rown]
    rw [World.size_alloc] at this
    exact this
  have hz : Blk ((w.alloc (.cells #[.int .u32 0, .bool false, .int .i64 0, .int .i64 0, .int .u8 0] 44)).alloc (.cells #[.int .u32 rid, .bool rwr, .int .i64 rsec, .int .i64 rfr, .int .u8 rown] 44)) w.heap.size 44 [.int .u32 0, .bool false, .int .i64 0, .int .i64 0, .int .u8 0] := (Blk.new w 44 [.int .u32 0, .bool false, .int .i64 0, .int .i64 0, .int .u8 0]).alloc _
  have hglt : g < w.heap.size := World.block_lt_of_cell? w _ c0
  generalize (w.alloc (.cells #[.int .u32 0, .bool false, .int .i64 0, .int .i64 0, .int .u8 0] 44)).alloc (.cells #[.int .u32 rid, .bool rwr, .int .i64 rsec, .int .i64 rfr, .int .u8 rown] 44) = W0 at *
  clear c0 c1 c2 c3 c4 d0 y0
  refine (delete_any W0 g m cap S.q (HQL.out _ hk0) i hmi hm8).mono ?_
  rintro e W2 ⟨rfl, ho, hk⟩
  obtain ⟨hr, hkF, hc, hf⟩ := HEND.out hk0 ho hk
  have hx2 := (hx.keep hk (by omega)).far (p := ⟨D, 0, none⟩) (show w.heap.size + 1 ≠ D by omega) (.slice (some ⟨g, 0, none⟩) m cap)
  have hz2 := (hz.keep hk (by omega)).far (p := ⟨D, 0, none⟩) (show w.heap.size ≠ D by omega) (.slice (some ⟨g, 0, none⟩) m cap)
  have x0 := hx2.cell_of (i := 0) rfl
  have x1 := hx2.cell_of (i := 1) rfl
  have x2 := hx2.cell_of (i := 2) rfl
  have x3 := hx2.cell_of (i := 3) rfl
  have x4 := hx2.cell_of (i := 4) rfl
  have z0 := hz2.cell_of (i := 0) rfl
  have z1 := hz2.cell_of (i := 1) rfl
  have z2 := hz2.cell_of (i := 2) rfl
  have z3 := hz2.cell_of (i := 3) rfl
  have z4 := hz2.cell_of (i := 4) rfl
  have f0 := hz2.frozen 0
  have f1 := hz2.frozen 1
  have f2 := hz2.frozen 2
  have f3 := hz2.frozen 3
  have f4 := hz2.frozen 4
  have HR2 := Lib.hid hr
  have HKF := Lib.hid hkF
  have HZ2 := Lib.hid hz2
  clear hr hkF hx2 hz2 hx hz hk ho hk0
  go_wp2
  generalize hW3 : W2.setCell ⟨D, 0, none⟩ (.slice (some ⟨g, 0, none⟩) m cap) = W3 at *
  have hk4 : Keep (· = w.heap.size) W3 (((((W3.setCell ⟨w.heap.size, 0, none⟩ (.int .u32 rid)).setCell ⟨w.heap.size, 1, none⟩ (.bool rwr)).setCell ⟨w.heap.size, 2, none⟩ (.int .i64 rsec)).setCell ⟨w.heap.size, 3, none⟩ (.int .i64 rfr)).setCell ⟨w.heap.size, 4, none⟩ (.int .u8 rown)) :=
    (((((Keep.refl (· = w.heap.size) W3).setCell (p := ⟨w.heap.size, 0, none⟩) (.inl rfl) _).setCell (p := ⟨w.heap.size, 1, none⟩) (.inl rfl) _).setCell (p := ⟨w.heap.size, 2, none⟩) (.inl rfl) _).setCell (p := ⟨w.heap.size, 3, none⟩) (.inl rfl) _).setCell (p := ⟨w.heap.size, 4, none⟩) (.inl rfl) _
  have hz4 := ((((HZ2.out.set_ 0 (.int .u32 rid)).set_ 1 (.bool rwr)).set_ 2 (.int .i64 rsec)).set_ 3 (.int .i64 rfr)).set_ 4 (.int .u8 rown)
  have v0 := hz4.cell_of (i := 0) rfl
  have v1 := hz4.cell_of (i := 1) rfl
  have v2 := hz4.cell_of (i := 2) rfl
  have v3 := hz4.cell_of (i := 3) rfl
  have v4 := hz4.cell_of (i := 4) rfl
  have hR4 := HR2.out.keep hk4 (fun b hb e => by have := HFL.out b hb; omega)
  have hK4 := HKF.out.thenF hk4 (fun x hx => .inr (by subst hx; exact Nat.le_refl _))
  exact bodyPost_ret (v := .agg #[.int .u32 rid, .bool rwr, .int .i64 rsec, .int .i64 rfr, .int .u8 rown]) (by simp [results, Try.results44, go_sem, v0, v1, v2, v3, v4]) rfl ⟨rfl, ⟨_, hR4⟩, hK4⟩
end
end Go.Proofs.Ytjlenocmfeggdaa
