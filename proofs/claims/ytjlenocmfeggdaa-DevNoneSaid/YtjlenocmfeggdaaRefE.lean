/- The document's disk: Ask's errors; what a turned queue leaves. -/
import Derived.Test.YtjlenocmfeggdaaRefA
import Derived.Test.YtjlenocmfeggdaaImpD
namespace Go.Proofs.Ytjlenocmfeggdaa
open Go.RowKit
attribute [local go_sem] cell_alloc_some frozen_alloc_some
section
variable {w w' : World} {R M : Nat} {S : St} {v sv bv : Value} {iv : Nat → Value} {W F : Nat → Prop}
/-- another queue -/
theorem RepR.qset (h : RepR w R M S v sv bv iv W F) (hk : Keep (· = R) w w') {S' : St} (hi : S'.Inv) (e1 : S'.ns = S.ns) (e2 : S'.nf = S.nf) (e3 : S'.sec = S.sec) (e4 : S'.fr = S.fr) {v' : Value}
    (hd : Blk w' R 118 [sv, v', .int .u32 S'.last]) (hq : w'.ownsRow 0 44 5 v' S'.q.length (flatQ S'.q)) (hv : ∀ g, v'.ownBlock = some g → F g ∨ w.heap.size ≤ g) :
    RepR w' R M S' v' sv bv iv W (ext F w w') := by
  have nR : ∀ {b t : Nat} {cs : List Value}, Blk w b t cs → t ≠ 118 → ¬ (b = R) := fun hb ht e => hb.ne_ h.disk ht e
  have oR : ∀ {base e size n : Nat} {u : Value} {xs : List Value}, w.ownsRow base e size u n xs → e ≠ 118 → w'.ownsRow base e size u n xs := fun ho he => ownsRow_keep ho hk (fun g hg e => own_ne ho h.disk he (by rw [hg, e]))
  obtain ⟨ns, nf, sec, fr, q, last⟩ := S'
  simp only at e1 e2 e3 e4 hd hq
  subst e1 e2 e3 e4
  exact ⟨hi, hd, hq, oR h.secs (by decide), fun i hi => ⟨oR (h.rows i hi).1 (by decide), fun g hg => .inl ((h.rows i hi).2 g hg)⟩, h.mem.keep hk (nR h.mem (by decide)), oR h.frs (by decide), h.wR, h.wS, h.wB, h.ne, fun b hb => .inl (h.wF b hb), .inl h.footM, fun g hg => (hv g hg).imp id (fun hg' => ⟨hg', (ownsRow_lt hq hg).2⟩)⟩
theorem RepR.rlenQ (h : RepR w R M S v sv bv iv W F) : ∃ A cap, v = .slice A S.q.length cap := by
  obtain ⟨A, cap, hv, _⟩ := own_form h.que
  exact ⟨A, cap, hv⟩
theorem RepR.rlenS (h : RepR w R M S v sv bv iv W F) : ∃ gs cs, sv = .slice (some ⟨gs, 0, none⟩) S.ns cs ∧ S.ns ≤ cs := by
  obtain ⟨g, cap, rfl, _, _⟩ := h.secs.form h.inv.ns0
  obtain ⟨A, c, hv, h1, _⟩ := own_form h.secs
  injection hv with _ _ e
  subst e
  exact ⟨g, cap, rfl, h1⟩
set_option maxRecDepth 100000 in
set_option maxHeartbeats 1000000 in
theorem rask_err (h : RepR w R M S v sv bv iv W F) (r : Req) (he : askE S r ≠ 0) :
    Calls Try.prog 60 #[.pointer (some ⟨R, 0, none⟩), .agg (reqc r).toArray] w fun e w' => e = .returned (.tuple #[.int .u32 0, .int .i64 (askE S r)]) ∧ Keep none_ w w' := by
  have hk1 : Keep none_ w (w.alloc (.cells (reqc r).toArray 44)) := (Keep.refl _ w).alloc _
  have hx : Blk (w.alloc (.cells (reqc r).toArray 44)) w.heap.size 44 (reqc r) := Blk.new w 44 (reqc r)
  have h1 := h.keep0 hk1
  obtain ⟨A, cap, rfl⟩ := h.rlenQ
  obtain ⟨gs, cs, rfl, _⟩ := h.rlenS
  have c0 := h1.disk.cell_of (i := 0) rfl
  have c1 := h1.disk.cell_of (i := 1) rfl
  have x2 := hx.cell_of (i := 2) rfl
  have x3 := hx.cell_of (i := 3) rfl
  have HK := Lib.hid hk1
  have hns := h.inv.ns1
  rcases ask_cases S r with ⟨hE, hc⟩ | ⟨hE, hc, hf⟩ | ⟨hE, hc, hf, hl⟩ | ⟨hE, _⟩
  · rw [hE]
    clear h h1 hk1 hx hE he
    obtain ⟨rid, rwr, rsec, rfr, rown⟩ := r
    unfold reqc at *
    simp only at hc
    generalize S.ns = ns at *
    rcases hc with hc | hc
    · go_enter Try.func60, Try.ntmps60
      go_wp2_with fail
      go_quiet (fail)
      go_wp2
      go_ret2
      exact ⟨rfl, HK.out.drewN _⟩
    · have hc' : decide (rsec < 0) = false := by simp; omega
      go_enter Try.func60, Try.ntmps60
      go_wp2_with fail
      go_quiet (fail)
      go_wp2
      go_ret2
      exact ⟨rfl, HK.out.drewN _⟩
  · rw [hE]
    clear h h1 hk1 hx hE he
    obtain ⟨rid, rwr, rsec, rfr, rown⟩ := r
    unfold reqc at *
    simp only at hc hf
    generalize S.ns = ns at *
    have hc' : decide (rsec < 0) = false := by simp; omega
    have hc2 : decide ((ns : Int) ≤ rsec) = false := by simp; omega
    rcases hf with hf | hf
    · go_enter Try.func60, Try.ntmps60
      go_wp2_with fail
      go_quiet (fail)
      go_wp2
      go_ret2
      exact ⟨rfl, HK.out.drewN _⟩
    · have hf' : decide (rfr < 0) = false := by simp; omega
      go_enter Try.func60, Try.ntmps60
      go_wp2_with fail
      go_quiet (fail)
      go_wp2
      go_ret2
      exact ⟨rfl, HK.out.drewN _⟩
  · rw [hE]
    have hq8 := h.inv.q8
    clear h h1 hk1 hx hE he
    obtain ⟨rid, rwr, rsec, rfr, rown⟩ := r
    unfold reqc at *
    simp only at hc hf
    generalize S.ns = ns at *
    generalize S.q.length = n at *
    have hc' : decide (rsec < 0) = false := by simp; omega
    have hc2 : decide ((ns : Int) ≤ rsec) = false := by simp; omega
    have hf' : decide (rfr < 0) = false := by simp; omega
    have hf2 : decide ((64 : Int) ≤ rfr) = false := by simp; omega
    go_enter Try.func60, Try.ntmps60
    go_wp2_with fail
    go_quiet (fail)
    go_wp2
    go_ret2
    exact ⟨rfl, HK.out.drewN _⟩
  · exact absurd hE he
end
end Go.Proofs.Ytjlenocmfeggdaa
