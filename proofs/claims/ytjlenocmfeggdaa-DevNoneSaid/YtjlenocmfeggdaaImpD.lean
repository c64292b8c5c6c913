/- The walks of has, push, Ask. -/
import Derived.Test.YtjlenocmfeggdaaImpC
import Derived.Deep.RegionHeld3
namespace Go.Proofs.Ytjlenocmfeggdaa
open Go.RowKit
attribute [local go_sem] cell_alloc_some frozen_alloc_some
theorem info44 : (Try.prog.info? 44).map (fun i => (i.zero, i.size, i.bytes)) = some (some (.agg #[.int .u32 0, .bool false, .int .i64 0, .int .i64 0, .int .u8 0]), 5, 32) := by kernel_rfl
section
variable {w w' : World} {D M : Nat} {S : St} {v : Value} {sb fb : Nat} {T : Tl} {F : Nat → Prop}
set_option maxRecDepth 100000 in
theorem has_yes (h : RepT w D M S v sb fb T F) (i : Int) (h0 : 0 ≤ i) (h1 : i < S.ns) :
    Calls Try.prog 42 #[.pointer (some ⟨D, 0, none⟩), .int .i64 i] w fun e w' => e = .returned (.bool true) ∧ w = w' := by
  have hc := h.disk.cell_of (i := 2) rfl
  have hn := h.inv.ns1
  clear h
  generalize S.ns = ns at *
  go_enter Try.func42, Try.ntmps42
  go_wp2
  go_ret
  exact ⟨rfl, rfl⟩
set_option maxRecDepth 100000 in
theorem has_no (h : RepT w D M S v sb fb T F) (i : Int) (h0 : i < 0 ∨ (S.ns : Int) ≤ i) :
    Calls Try.prog 42 #[.pointer (some ⟨D, 0, none⟩), .int .i64 i] w fun e w' => e = .returned (.bool false) ∧ w = w' := by
  have hc := h.disk.cell_of (i := 2) rfl
  have hn := h.inv.ns1
  clear h
  generalize S.ns = ns at *
  rcases h0 with h0 | h0
  · have j0 : ¬ (0 ≤ i) := by omega
    go_enter Try.func42, Try.ntmps42
    go_wp2
    go_ret
    exact ⟨rfl, rfl⟩
  · have j0 : 0 ≤ i := by omega
    have j1 : ¬ (i < ns) := by omega
    go_enter Try.func42, Try.ntmps42
    go_wp2
    go_ret
    exact ⟨rfl, rfl⟩
end
set_option maxRecDepth 100000 in
set_option maxHeartbeats 1000000 in
theorem push_any (w : World) (D n last : Nat) (v sv : Value) (xs : List Value) (r : Req) (hD : Blk w D 92 [v, .int .u32 last, sv]) (hq : w.ownsRow 0 44 5 v n xs) (hn : n ≤ 1000) (hl : last ≤ 1000) :
    Calls Try.prog 43 #[.pointer (some ⟨D, 0, none⟩), .agg (reqc r).toArray] w fun e w' => e = .returned (.int .u32 (last + 1)) ∧ ∃ v', Blk w' D 92 [v', .int .u32 ((last + 1 : Nat) : Int), sv] ∧ w'.ownsRow 0 44 5 v' (n + 1) (xs ++ reqc { r with id := last + 1 }) ∧
      (v'.ownBlock = v.ownBlock ∨ ∃ g, v'.ownBlock = some g ∧ w.heap.size ≤ g) ∧ Keep (fun g => g = D ∨ v.ownBlock = some g) w w' := by
  obtain ⟨i0, hi, hz0, hz1, hz2⟩ := info_parts info44
  obtain ⟨rid, rwr, rsec, rfr, rown⟩ := r
  have c0 := hD.cell_of (i := 0) rfl
  have c1 := hD.cell_of (i := 1) rfl
  have z0 := hD.frozen 0
  have z1 := hD.frozen 1
  have j0 : (0 : Int) ≤ (last : Int) := by omega
  have j1 : (last : Int) ≤ 1000 := by omega
  have hlt := hD.lt
  obtain ⟨A, cap, rfl, hc1, hc2⟩ := own_form hq
  have HD := Lib.hid hD
  have HQ := Lib.hid hq
  have HON := Lib.hid (own_ne hq hD (by decide))
  clear hD hq
  unfold reqc
  go_enter Try.func43, Try.ntmps43
  go_wp2_with fail
  obtain ⟨r', hr'⟩ : ∃ r' : Req, r' = ⟨(last : Int) + 1, rwr, rsec, rfr, rown⟩ := ⟨_, rfl⟩
  have hbD : Blk ((w.setCell ⟨D, 1, none⟩ (.int .u32 ((last : Int) + 1))).alloc (.cells #[.int .u32 ((last : Int) + 1), .bool rwr, .int .i64 rsec, .int .i64 rfr, .int .u8 rown] 44)) D 92 [.slice A n cap, .int .u32 ((last : Int) + 1), sv] := (HD.out.set_ 1 _).alloc _
  have hbX : Blk ((w.setCell ⟨D, 1, none⟩ (.int .u32 ((last : Int) + 1))).alloc (.cells #[.int .u32 ((last : Int) + 1), .bool rwr, .int .i64 rsec, .int .i64 rfr, .int .u8 rown] 44)) w.heap.size 44 [.int .u32 ((last : Int) + 1), .bool rwr, .int .i64 rsec, .int .i64 rfr, .int .u8 rown] := by
    have := Blk.new (w.setCell ⟨D, 1, none⟩ (.int .u32 ((last : Int) + 1))) 44 [.int .u32 ((last : Int) + 1), .bool rwr, .int .i64 rsec, .int .i64 rfr, .int .u8 rown]
    rw [show (w.setCell ⟨D, 1, none⟩ (.int .u32 ((last : Int) + 1))).heap.size = w.heap.size by simp] at this
    exact this
  have hkD : Keep (· = D) w ((w.setCell ⟨D, 1, none⟩ (.int .u32 ((last : Int) + 1))).alloc (.cells #[.int .u32 ((last : Int) + 1), .bool rwr, .int .i64 rsec, .int .i64 rfr, .int .u8 rown] 44)) := (Keep.setCell (S := (· = D)) (p := ⟨D, 1, none⟩) (Keep.refl _ w) (.inl rfl) _).alloc _
  have hsz : ((w.setCell ⟨D, 1, none⟩ (.int .u32 ((last : Int) + 1))).alloc (.cells #[.int .u32 ((last : Int) + 1), .bool rwr, .int .i64 rsec, .int .i64 rfr, .int .u8 rown] 44)).heap.size = w.heap.size + 1 := by simp
  generalize (w.setCell ⟨D, 1, none⟩ (.int .u32 ((last : Int) + 1))).alloc (.cells #[.int .u32 ((last : Int) + 1), .bool rwr, .int .i64 rsec, .int .i64 rfr, .int .u8 rown] 44) = W0 at *
  have hq0 := ownsRow_keep HQ.out hkD (fun g hg e => HON.out (by rw [hg, e]))
  have HSZ := Lib.hid hsz
  clear hsz c0 c1 z0 z1 hr'
  refine wp_region_X (S := fun W => Blk W D 92 [.slice A n cap, .int .u32 ((last : Int) + 1), sv] ∧ Blk W w.heap.size 44 [.int .u32 ((last : Int) + 1), .bool rwr, .int .i64 rsec, .int .i64 rfr, .int .u8 rown]) (last := 10) (by kernel_rfl) ?_
  have hS : Blk W0.drew D 92 [.slice A n cap, .int .u32 ((last : Int) + 1), sv] ∧ Blk W0.drew w.heap.size 44 [.int .u32 ((last : Int) + 1), .bool rwr, .int .i64 rsec, .int .i64 rfr, .int .u8 rown] := ⟨hbD.drew, hbX.drew⟩
  refine wpAnyX_take (i := 0) (v := ?_) rfl (by kernel_rfl) (by kernel_rfl) (by kernel_rfl) (by kernel_rfl) (by decide) (fun _ _ _ h => h) hS (Or.inl ⟨by rfl, fun W hSW => ?_⟩) ?_
  rotate_left
  { obtain ⟨e0, e1⟩ := hSW
    have f0 := e0.cell_of (i := 0) rfl
    have g0 := e1.cell_of (i := 0) rfl
    have g1 := e1.cell_of (i := 1) rfl
    have g2 := e1.cell_of (i := 2) rfl
    have g3 := e1.cell_of (i := 3) rfl
    have g4 := e1.cell_of (i := 4) rfl
    go_simp
    with_reducible rfl }
  refine wpAnyX_take (i := 1) (v := ?_) rfl (by kernel_rfl) (by kernel_rfl) (by kernel_rfl) (by kernel_rfl) (by decide) (fun _ _ _ h => h) hS (Or.inl ⟨by rfl, fun W hSW => ?_⟩) ?_
  rotate_left
  { obtain ⟨e0, e1⟩ := hSW
    have f0 := e0.cell_of (i := 0) rfl
    have g0 := e1.cell_of (i := 0) rfl
    have g1 := e1.cell_of (i := 1) rfl
    have g2 := e1.cell_of (i := 2) rfl
    have g3 := e1.cell_of (i := 3) rfl
    have g4 := e1.cell_of (i := 4) rfl
    go_simp
    with_reducible rfl }
  refine wpAnyX_take (i := 2) (v := ?_) rfl (by kernel_rfl) (by kernel_rfl) (by kernel_rfl) (by kernel_rfl) (by decide) (fun _ _ _ h => h) hS (Or.inl ⟨by rfl, fun W hSW => ?_⟩) ?_
  rotate_left
  { obtain ⟨e0, e1⟩ := hSW
    have f0 := e0.cell_of (i := 0) rfl
    have g0 := e1.cell_of (i := 0) rfl
    have g1 := e1.cell_of (i := 1) rfl
    have g2 := e1.cell_of (i := 2) rfl
    have g3 := e1.cell_of (i := 3) rfl
    have g4 := e1.cell_of (i := 4) rfl
    go_simp
    with_reducible rfl }
  refine wpAnyX_take (i := 3) (v := ?_) rfl (by kernel_rfl) (by kernel_rfl) (by kernel_rfl) (by kernel_rfl) (by decide) (fun _ _ _ h => h) hS (Or.inl ⟨by rfl, fun W hSW => ?_⟩) ?_
  rotate_left
  { obtain ⟨e0, e1⟩ := hSW
    have f0 := e0.cell_of (i := 0) rfl
    have g0 := e1.cell_of (i := 0) rfl
    have g1 := e1.cell_of (i := 1) rfl
    have g2 := e1.cell_of (i := 2) rfl
    have g3 := e1.cell_of (i := 3) rfl
    have g4 := e1.cell_of (i := 4) rfl
    go_simp
    with_reducible rfl }
  refine wpAnyX_take (i := 4) (v := ?_) rfl (by kernel_rfl) (by kernel_rfl) (by kernel_rfl) (by kernel_rfl) (by decide) (fun _ _ _ h => h) hS (Or.inl ⟨by rfl, fun W hSW => ?_⟩) ?_
  rotate_left
  { obtain ⟨e0, e1⟩ := hSW
    have f0 := e0.cell_of (i := 0) rfl
    have g0 := e1.cell_of (i := 0) rfl
    have g1 := e1.cell_of (i := 1) rfl
    have g2 := e1.cell_of (i := 2) rfl
    have g3 := e1.cell_of (i := 3) rfl
    have g4 := e1.cell_of (i := 4) rfl
    go_simp
    with_reducible rfl }
  refine wpAnyX_take (i := 5) (v := ?_) rfl (by kernel_rfl) (by kernel_rfl) (by kernel_rfl) (by kernel_rfl) (by decide) (fun _ _ _ h => h) hS (Or.inl ⟨by rfl, fun W hSW => ?_⟩) ?_
  rotate_left
  { obtain ⟨e0, e1⟩ := hSW
    have f0 := e0.cell_of (i := 0) rfl
    have g0 := e1.cell_of (i := 0) rfl
    have g1 := e1.cell_of (i := 1) rfl
    have g2 := e1.cell_of (i := 2) rfl
    have g3 := e1.cell_of (i := 3) rfl
    have g4 := e1.cell_of (i := 4) rfl
    go_simp
    with_reducible rfl }
  refine wpAnyX_ready (rs := [6]) (by kernel_rfl) (by simp) ?_
  refine AllX.cons rfl (fun K hK => ?_) AllX.nil
  go_simp
  have hbD1 := (hbD.alloc (.cells #[.int .u32 ((last : Int) + 1), .bool rwr, .int .i64 rsec, .int .i64 rfr, .int .u8 rown] 44)).drew
  have hbX1 := (hbX.alloc (.cells #[.int .u32 ((last : Int) + 1), .bool rwr, .int .i64 rsec, .int .i64 rfr, .int .u8 rown] 44)).drew
  have hbN : Blk (W0.alloc (.cells #[.int .u32 ((last : Int) + 1), .bool rwr, .int .i64 rsec, .int .i64 rfr, .int .u8 rown] 44)).drew W0.heap.size 44 [.int .u32 ((last : Int) + 1), .bool rwr, .int .i64 rsec, .int .i64 rfr, .int .u8 rown] := (Blk.new W0 44 [.int .u32 ((last : Int) + 1), .bool rwr, .int .i64 rsec, .int .i64 rfr, .int .u8 rown]).drew
  have hk1 : Keep (· = D) w (W0.alloc (.cells #[.int .u32 ((last : Int) + 1), .bool rwr, .int .i64 rsec, .int .i64 rfr, .int .u8 rown] 44)).drew := (hkD.alloc _).drew
  have hq1 : (W0.alloc (.cells #[.int .u32 ((last : Int) + 1), .bool rwr, .int .i64 rsec, .int .i64 rfr, .int .u8 rown] 44)).drew.ownsRow 0 44 5 (.slice A n cap) n xs := (hq0.alloc _).drew
  have hs1 : w.heap.size + 1 ≤ (W0.alloc (.cells #[.int .u32 ((last : Int) + 1), .bool rwr, .int .i64 rsec, .int .i64 rfr, .int .u8 rown] 44)).drew.heap.size := by have := HSZ.out; simp; omega
  refine hK.out _ _ (.inr ⟨hbD1, hbX1⟩) ?_
  clear hK K hS hbD hbX hkD hq0
  generalize (W0.alloc (.cells #[.int .u32 ((last : Int) + 1), .bool rwr, .int .i64 rsec, .int .i64 rfr, .int .u8 rown] 44)).drew = W1 at *
  refine wpAnyX_ready (rs := [7]) (by kernel_rfl) (by simp) ?_
  refine AllX.cons rfl (fun K hK => ?_) AllX.nil
  refine step_append_gen rfl _ _ 38 rfl 0 44 i0 (.agg #[.int .u32 0, .bool false, .int .i64 0, .int .i64 0, .int .u8 0]) 5 32 Try.underlying38 hi hz0 hz1 hz2 rfl (by decide) (.slice A n cap) n xs rfl hq1 (some ⟨W0.heap.size, 0, none⟩) 1 1 [.int .u32 ((last : Int) + 1), .bool rwr, .int .i64 rsec, .int .i64 rfr, .int .u8 rown] rfl (.inr ⟨_, rfl, rfl, hbN.news⟩) (by simp [Value.oneCell']) (by unfold maxLen; omega) (by omega) (Nat.zero_le _) ?_
  intro v' W2 hown2 hg2 hob2
  have hk2 := Keep.of_grown hg2
  have hbD2 := hbD1.keep hk2 (fun e => HON.out e)
  have hbX2 := hbX1.keep hk2 (fun e => by have := (ownsRow_lt HQ.out e).2; omega)
  obtain ⟨g2, cap2, rfl, hcc1, hcc2⟩ := hown2.form (by omega)
  refine hK.out _ _ (.inr ⟨hbD2, hbX2⟩) ?_
  clear hK K
  refine wpAnyX_ready (rs := [8]) (by kernel_rfl) (by simp) ?_
  refine AllX.cons rfl (fun K hK => ?_) AllX.nil
  go_simp
  refine hK.out _ _ (.inr (⟨hbD2, hbX2⟩)) ?_
  clear hK K
  refine wpAnyX_ready (rs := [9]) (by kernel_rfl) (by simp) ?_
  refine AllX.cons rfl (fun K hK => ?_) AllX.nil
  go_simp
  refine hK.out _ _ (.inr (⟨hbD2, hbX2⟩)) ?_
  clear hK K

  have d0 := hbD2.cell_of (i := 0) rfl
  have y0 := hbD2.frozen 0
  refine wpAnyX_ready (rs := [10]) (by kernel_rfl) (by simp) ?_
  refine AllX.cons rfl (fun K hK => ?_) AllX.nil
  go_simp
  refine hK.out _ _ (.inl rfl) ?_
  clear hK K
  refine wpAnyX_done (by kernel_rfl) ?_ _
  have hne : w.heap.size ≠ D := by omega
  have hbX3 := hbX2.far (p := ⟨D, 0, none⟩) hne (.slice (some ⟨g2, 0, none⟩) (n + 1) cap2)
  have x0 := hbX3.cell_of (i := 0) rfl
  have HD3 := Lib.hid (hbD2.set_ 0 (.slice (some ⟨g2, 0, none⟩) (n + 1) cap2))
  have hDg : g2 ≠ D := fun e => (own_ne hown2 hbD2 (by decide)) (by rw [e]; rfl)
  have hk3 : Keep (· = D) W2 (W2.setCell ⟨D, 0, none⟩ (.slice (some ⟨g2, 0, none⟩) (n + 1) cap2)) := Keep.setCell (S := (· = D)) (p := ⟨D, 0, none⟩) (Keep.refl _ W2) (.inl rfl) _
  have HQ3 := Lib.hid (ownsRow_keep hown2 hk3 (fun g hg e => hDg (by injection hg with hg; exact hg.trans e)))
  have HK3 : Hid (Keep (fun g => g = D ∨ (Value.slice A n cap).ownBlock = some g) w (W2.setCell ⟨D, 0, none⟩ (.slice (some ⟨g2, 0, none⟩) (n + 1) cap2))) :=
    (((hk1.mono (S' := fun g => g = D ∨ (Value.slice A n cap).ownBlock = some g) (fun _ h => .inl h)).thenF hk2 (fun x hx => .inl (.inr hx))).thenF hk3 (fun x hx => .inl (.inl hx)))
  have HOB : Hid ((Value.slice (some ⟨g2, 0, none⟩) (n + 1) cap2).ownBlock = (Value.slice A n cap).ownBlock ∨ ∃ g, (Value.slice (some ⟨g2, 0, none⟩) (n + 1) cap2).ownBlock = some g ∧ w.heap.size ≤ g) := by
    rcases hob2 with h | h
    · exact .inl h
    · exact .inr ⟨_, h, by omega⟩
  clear hbD2 hbX2 hbX3 hk3 hob2 hown2 hg2 hk2 hbD1 hbX1 hbN hk1 hq1 d0 y0
  go_wp2
  go_ret
  exact ⟨rfl, _, HD3.out, HQ3.out, HOB.out, HK3.out⟩
theorem ask_cases (S : St) (r : Req) : (askE S r = 2 ∧ (r.sec < 0 ∨ (S.ns : Int) ≤ r.sec)) ∨ (askE S r = 2 ∧ (0 ≤ r.sec ∧ r.sec < S.ns) ∧ (r.fr < 0 ∨ 64 ≤ r.fr)) ∨ (askE S r = 4 ∧ (0 ≤ r.sec ∧ r.sec < S.ns) ∧ (0 ≤ r.fr ∧ r.fr < 64) ∧ 8 ≤ S.q.length) ∨ (askE S r = 0 ∧ (0 ≤ r.sec ∧ r.sec < S.ns) ∧ (0 ≤ r.fr ∧ r.fr < 64) ∧ S.q.length < 8) := by
  unfold askE
  by_cases h1 : r.sec < 0 ∨ (S.ns : Int) ≤ r.sec
  · rw [if_pos (by omega)]; exact .inl ⟨rfl, h1⟩
  · by_cases h2 : r.fr < 0 ∨ 64 ≤ r.fr
    · rw [if_pos (by omega)]; exact .inr (.inl ⟨rfl, by omega, h2⟩)
    · rw [if_neg (by omega)]
      by_cases h3 : 8 ≤ S.q.length
      · rw [if_pos h3]; exact .inr (.inr (.inl ⟨rfl, by omega, by omega, h3⟩))
      · rw [if_neg h3]; exact .inr (.inr (.inr ⟨rfl, by omega, by omega, by omega⟩))
section
variable {w w' : World} {D M : Nat} {S : St} {v : Value} {sb fb : Nat} {T : Tl} {F : Nat → Prop}
theorem RepT.lenQ (h : RepT w D M S v sb fb T F) : ∃ A cap, v = .slice A S.q.length cap := by
  obtain ⟨A, cap, hv, _⟩ := own_form h.que
  exact ⟨A, cap, hv⟩
set_option maxRecDepth 100000 in
set_option maxHeartbeats 1000000 in
theorem ask_err (h : RepT w D M S v sb fb T F) (r : Req) (he : askE S r ≠ 0) :
    Calls Try.prog 16 #[.pointer (some ⟨D, 0, none⟩), .agg (reqc r).toArray] w fun e w' => e = .returned (.tuple #[.int .u32 0, .int .i64 (askE S r)]) ∧ Keep none_ w w' := by
  have hk1 : Keep none_ w (w.alloc (.cells #[.int .u32 r.id, .bool r.wr, .int .i64 r.sec, .int .i64 r.fr, .int .u8 r.own] 44)) := (Keep.refl _ w).alloc _
  have h1 := h.keep0 hk1
  obtain ⟨A, cap, rfl⟩ := h.lenQ
  have c0 := h1.disk.cell_of (i := 0) rfl
  have HK := Lib.hid hk1
  rcases ask_cases S r with ⟨hE, hc⟩ | ⟨hE, hc, hf⟩ | ⟨hE, hc, hf, hl⟩ | ⟨hE, _⟩
  · have H1 := Lib.hid (has_no h1 r.sec hc)
    rw [hE]
    clear h h1 hk1 hE he hc
    obtain ⟨rid, rwr, rsec, rfr, rown⟩ := r
    unfold reqc
    go_enter Try.func16, Try.ntmps16
    go_wp2_with (go_at_call 42; refine H1.out.mono ?_; rintro e w' ⟨rfl, rfl⟩)
    go_ret2
    exact ⟨rfl, HK.out⟩
  · have H1 := Lib.hid (has_yes h1 r.sec hc.1 hc.2)
    rw [hE]
    have HF := Lib.hid hf
    clear h h1 hk1 hE he hc
    obtain ⟨rid, rwr, rsec, rfr, rown⟩ := r
    unfold reqc
    simp only at hf
    rcases hf with hf | hf
    · go_enter Try.func16, Try.ntmps16
      go_wp2_with (go_at_call 42; refine H1.out.mono ?_; rintro e w' ⟨rfl, rfl⟩)
      go_ret2
      exact ⟨rfl, HK.out⟩
    · have hf' : ¬ (rfr < 0) := by omega
      go_enter Try.func16, Try.ntmps16
      go_wp2_with (go_at_call 42; refine H1.out.mono ?_; rintro e w' ⟨rfl, rfl⟩)
      go_ret2
      exact ⟨rfl, HK.out⟩
  · have H1 := Lib.hid (has_yes h1 r.sec hc.1 hc.2)
    rw [hE]
    clear h h1 hk1 hE he hc
    obtain ⟨rid, rwr, rsec, rfr, rown⟩ := r
    simp only at hf
    have hf1 : ¬ (rfr < 0) := by omega
    have hf2 : ¬ (rfr ≥ 64) := by omega
    unfold reqc
    generalize S.q.length = n at *
    go_enter Try.func16, Try.ntmps16
    go_wp2_with (go_at_call 42; refine H1.out.mono ?_; rintro e w' ⟨rfl, rfl⟩)
    go_ret2
    exact ⟨rfl, HK.out⟩
  · exact absurd hE he
set_option maxRecDepth 100000 in
set_option maxHeartbeats 1000000 in
theorem ask_ok (h : RepT w D M S v sb fb T F) (hl : S.last ≤ 1000) (r : Req) (he : askE S r = 0) :
    Calls Try.prog 16 #[.pointer (some ⟨D, 0, none⟩), .agg (reqc r).toArray] w fun e w' => e = .returned (.tuple #[.int .u32 (S.last + 1), .int .i64 0]) ∧ RT w' D M (askS S r) (ext F w w') ∧ Keep F w w' := by
  have hk1 : Keep none_ w (w.alloc (.cells #[.int .u32 r.id, .bool r.wr, .int .i64 r.sec, .int .i64 r.fr, .int .u8 r.own] 44)) := (Keep.refl _ w).alloc _
  have h1 := h.keep0 hk1
  obtain ⟨A, cap, rfl⟩ := h.lenQ
  have c0 := h1.disk.cell_of (i := 0) rfl
  have hx : Blk (w.alloc (.cells #[.int .u32 r.id, .bool r.wr, .int .i64 r.sec, .int .i64 r.fr, .int .u8 r.own] 44)) w.heap.size 44 (reqc r) := Blk.new w 44 (reqc r)
  have hIA := h.inv.ask r
  rcases ask_cases S r with ⟨hE, _⟩ | ⟨hE, _⟩ | ⟨hE, _⟩ | ⟨hE, hc, hf, hq⟩
  · rw [hE] at he; cases he
  · rw [hE] at he; cases he
  · rw [hE] at he; cases he
  · have H1 := Lib.hid (has_yes h1 r.sec hc.1 hc.2)
    have hS : askS S r = { S with q := S.q ++ [{ r with id := S.last + 1 }], last := S.last + 1 } := by unfold askS; rw [if_pos hE]
    rw [hS] at hIA ⊢
    have H2 := Lib.hid (push_any _ D S.q.length S.last _ _ _ r h1.disk.drew h1.que.drew (by have := h.inv.q8; omega) hl)
    have HEND : Hid (∀ {w' : World} {v' : Value}, Blk w' D 92 [v', .int .u32 ((S.last + 1 : Nat) : Int), .slice (some ⟨sb, 0, none⟩) S.ns T.sc] → w'.ownsRow 0 44 5 v' (S.q.length + 1) (flatQ S.q ++ reqc { r with id := S.last + 1 }) →
        (v'.ownBlock = (Value.slice A S.q.length cap).ownBlock ∨ ∃ g, v'.ownBlock = some g ∧ w.heap.size ≤ g) → Keep (fun g => g = D ∨ (Value.slice A S.q.length cap).ownBlock = some g) (w.alloc (.cells #[.int .u32 r.id, .bool r.wr, .int .i64 r.sec, .int .i64 r.fr, .int .u8 r.own] 44)) w' →
        RT w' D M { S with q := S.q ++ [{ r with id := S.last + 1 }], last := S.last + 1 } (ext F w w') ∧ Keep F w w') := by
      intro w' v' hd hq' hob hk
      have hk0 : Keep F w w' := ((Keep.refl F w).alloc _).thenF hk (fun x hx => .inl (by rcases hx with rfl | hx; exact h.footD; exact h.footQ _ hx))
      refine ⟨⟨v', sb, fb, T, ?_⟩, hk0⟩
      have hnD : ∀ {g t : Nat} {cs : List Value}, Blk w g t cs → t ≠ 92 → t ≠ 44 → ¬ (g = D ∨ (Value.slice A S.q.length cap).ownBlock = some g) := fun hb n1 n2 hx => by
        rcases hx with hx | hx
        · exact hb.ne_ h.disk n1 hx
        · exact own_ne h.que hb (Ne.symm n2) hx
      have kp : ∀ {g t : Nat} {cs : List Value}, Blk w g t cs → t ≠ 92 → t ≠ 44 → Blk w' g t cs := fun hb h1 h2 => (hb.alloc _).keep hk (hnD hb h1 h2)
      refine ⟨hIA, hd, ?_, kp h.secs (by decide) (by decide), kp h.mem (by decide) (by decide), kp h.frs (by decide) (by decide), .inl h.footD, fun g hg => ?_, .inl h.footS, .inl h.footM, .inl h.footF⟩
      · show w'.ownsRow 0 44 5 v' (S.q ++ [_]).length (flatQ (S.q ++ [_]))
        rw [flatQ_append, List.length_append]
        simpa [flatQ] using hq'
      · rcases hob with ho | ⟨g', ho, hlt⟩
        · exact .inl (h.footQ g (by rw [← ho]; exact hg))
        · have : g' = g := by rw [ho] at hg; injection hg
          subst this
          exact .inr ⟨hlt, (ownsRow_lt hq' ho).2⟩
    have HX := Lib.hid hx
    have HQ := Lib.hid h.que
    have hDlt := h.disk.lt
    clear h h1 hk1 hE he hS hIA hl
    obtain ⟨rid, rwr, rsec, rfr, rown⟩ := r
    simp only at hf hc
    have hf1 : ¬ (rfr < 0) := by omega
    have hf2 : ¬ (rfr ≥ 64) := by omega
    unfold reqc at *
    have hqn : ¬ ((S.q.length : Int) ≥ 8) := by omega
    have x0 := hx.drew.cell_of (i := 0) rfl
    have x1 := hx.drew.cell_of (i := 1) rfl
    have x2 := hx.drew.cell_of (i := 2) rfl
    have x3 := hx.drew.cell_of (i := 3) rfl
    have x4 := hx.drew.cell_of (i := 4) rfl
    clear hx
    generalize flatQ S.q = fq at *
    generalize hlen : S.q.length = n at *
    have HLEN := Lib.hid hlen
    clear hlen
    go_enter Try.func16, Try.ntmps16
    go_wp2_with (go_at_call 42; refine H1.out.mono ?_; rintro e w' ⟨rfl, rfl⟩)
    obtain ⟨W1, hW1⟩ : ∃ W1, W1 = w.alloc (.cells #[.int .u32 rid, .bool rwr, .int .i64 rsec, .int .i64 rfr, .int .u8 rown] 44) := ⟨_, rfl⟩
    rw [← hW1] at x0 x1 x2 x3 x4 H2 HX HEND ⊢
    have HW1 : Hid (W1.heap.size = w.heap.size + 1) := by rw [hW1]; simp [Hid]
    clear hW1 H1
    go_region_held3 (fun W => W.cell? ⟨w.heap.size, 0, none⟩ = some (.int .u32 rid) ∧ W.cell? ⟨w.heap.size, 1, none⟩ = some (.bool rwr) ∧ W.cell? ⟨w.heap.size, 2, none⟩ = some (.int .i64 rsec) ∧ W.cell? ⟨w.heap.size, 3, none⟩ = some (.int .i64 rfr) ∧ W.cell? ⟨w.heap.size, 4, none⟩ = some (.int .u8 rown))
      (first | exact ⟨x0, x1, x2, x3, x4⟩ | exact ⟨t0, t1, t2, t3, t4⟩ | go_keep)
      (first | (go_at_call 43; refine Calls.mono (by exact H2.out) ?_; rintro e w' ⟨rfl, v', hd, hq', hob, hk⟩; have hX' := HX.out.drew.keep hk (fun hx => by rcases hx with hx | hx; omega; have := (ownsRow_lt HQ.out hx).2; omega); have t0 := hX'.cell_of (i := 0) rfl; have t1 := hX'.cell_of (i := 1) rfl; have t2 := hX'.cell_of (i := 2) rfl; have t3 := hX'.cell_of (i := 3) rfl; have t4 := hX'.cell_of (i := 4) rfl; have HFIN := Lib.hid (HEND.out hd hq' (hob.imp id fun ⟨g, a, b⟩ => ⟨g, a, by have e1 := HW1.out; have e2 : W1.heap.size ≤ g := b; omega⟩) (Keep.trans ((Keep.refl _ W1).drew) hk)); clear hX' hd hq' hob hk))
    go_wp2
    go_ret2
    exact ⟨rfl, HFIN.out.1, HFIN.out.2⟩
end
end Go.Proofs.Ytjlenocmfeggdaa
