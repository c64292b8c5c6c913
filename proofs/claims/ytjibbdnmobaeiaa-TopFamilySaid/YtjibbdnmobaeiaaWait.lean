/- Wait where the least child has ended. -/
import Derived.Test.YtjibbdnmobaeiaaExit
namespace Go.Proofs.Ytjibbdnmobaeiaa
open Go.RowKit Go.Shelf
attribute [local go_sem] Oper.semAt_some
attribute [local go_sem] cell_alloc_some frozen_alloc_some
theorem ty34_43e (p s : Int) (w : World) : (Instr.typeAssert (PS.ended p s).enc 34 43 true).run Try.prog w = .ok (.tuple #[.agg #[.int .i64 p, .int .i64 s], .bool true]) w := by kernel_rfl
/-- how the body of Wait's loop is left -/
def Left (w5 : World) (t r : Nat) (c : Nat → PS) (code : Code) (pre : List (Kid c 0)) (W : World) : Prop :=
  code = .ret ∧ ∃ x p s, pre.map (·.1) = [x] ∧ c x = .ended p s ∧ Blk W r 3 [.int .i64 x] ∧ Blk W (r + 1) 3 [.int .i64 s] ∧ Blk W (r + 1 + 1) 25 [.int .i64 0] ∧ Tab W t (upd c x .no) ∧
    Keep (fun b => b = t ∨ b = r ∨ b = r + 1 ∨ b = r + 1 + 1) w5 W
theorem left_from {w5 : World} {t r : Nat} {c : Nat → PS} (ht : t < w5.heap.size) (hr : r + 1 + 1 < w5.heap.size) (code : Code) : OwnFrom w5.heap.size (Left w5 t r c code) := by
  rintro pre A B row ⟨rfl, x, p, s, h1, h2, h3, h4, h5, h6, h7⟩ hg hrow
  have hb : Below w5.heap.size A B := (Below.refl _ _).grown hg h7.size (fun k e => (hrow k e).1)
  exact ⟨rfl, x, p, s, h1, h2, h3.below hb (by omega), h4.below hb (by omega), h5.below hb (by omega), h6.below hb ht, ⟨hb.os.trans h7.os, hb.tape.trans h7.tape, hb.output.trans h7.output, Nat.le_trans h7.size hb.size, fun k hk hs => (hb.block k hk).trans (h7.block k hk hs)⟩⟩
set_option maxRecDepth 100000 in
set_option maxHeartbeats 1000000 in
theorem wait_one (t i : Nat) (q p s : Int) (rest : List Nat) (c : Nat → PS) (w : World) (ht : Tab w t c) (hc : c 0 = .living q) (hk : kids c 0 6 = i :: rest) (hi6 : i < 6) (hci : c i = .ended p s) (hall : ∀ x, x ∈ kids c 0 6 → x < 6 ∧ ∃ p s, c x = .ended p s) :
    Calls Try.prog 7 #[.pointer (some ⟨t, 0, none⟩), .int .i64 0] w fun e w' => e = .returned (.tuple #[.int .i64 i, .int .i64 s, .int .i64 0]) ∧ Tab w' t (upd c i .no) ∧ Keep (· = t) w w' := by
  have hlt := ht.lt
  have HT := Lib.hid ht; clear ht
  have HC := Lib.hid hc; clear hc
  have HKD := Lib.hid hk; clear hk
  have HCI := Lib.hid hci; clear hci
  have HALL := Lib.hid hall; clear hall
  refine (callsIn_wide (n := 5)).1 ?_
  have hF : ∀ f, Fence.wide.fn f := fun _ => trivial
  refine callsIn_of_wp_marks Try.func7 rfl trivial ?_ rfl
  simp only [Try.ntmps7, List.size_toArray, List.length_cons, List.length_nil, Nat.reduceAdd, Nat.reduceSub, Array.replicate_succ, Array.replicate_zero, List.push_toArray, List.append_toArray, List.nil_append, List.cons_append]
  gi_wp2_with fail
  have ht0 : Tab ((((w.alloc (.cells #[.pointer (some ⟨t, 0, none⟩)] 23)).alloc (.cells #[.int .i64 0] 3)).alloc (.cells #[.int .i64 0] 3)).alloc (.cells #[.int .i64 0] 25)) t c := (((HT.out.alloc _).alloc _).alloc _).alloc _
  have hti := ht0.cell (k := 0) (by omega)
  rw [HC.out] at hti
  have b0 : Blk ((((w.alloc (.cells #[.pointer (some ⟨t, 0, none⟩)] 23)).alloc (.cells #[.int .i64 0] 3)).alloc (.cells #[.int .i64 0] 3)).alloc (.cells #[.int .i64 0] 25)) w.heap.size 23 [.pointer (some ⟨t, 0, none⟩)] := (((Blk.new w _ _).alloc _).alloc _).alloc _
  have b1 : Blk ((((w.alloc (.cells #[.pointer (some ⟨t, 0, none⟩)] 23)).alloc (.cells #[.int .i64 0] 3)).alloc (.cells #[.int .i64 0] 3)).alloc (.cells #[.int .i64 0] 25)) (w.heap.size + 1) 3 [.int .i64 0] := by
    have := ((Blk.new (w.alloc (.cells #[.pointer (some ⟨t, 0, none⟩)] 23)) 3 [.int .i64 0]).alloc (.cells #[.int .i64 0] 3)).alloc (.cells #[.int .i64 0] 25)
    simpa using this
  have b2 : Blk ((((w.alloc (.cells #[.pointer (some ⟨t, 0, none⟩)] 23)).alloc (.cells #[.int .i64 0] 3)).alloc (.cells #[.int .i64 0] 3)).alloc (.cells #[.int .i64 0] 25)) (w.heap.size + 1 + 1) 3 [.int .i64 0] := by
    have := (Blk.new ((w.alloc (.cells #[.pointer (some ⟨t, 0, none⟩)] 23)).alloc (.cells #[.int .i64 0] 3)) 3 [.int .i64 0]).alloc (.cells #[.int .i64 0] 25)
    simpa using this
  have b3 : Blk ((((w.alloc (.cells #[.pointer (some ⟨t, 0, none⟩)] 23)).alloc (.cells #[.int .i64 0] 3)).alloc (.cells #[.int .i64 0] 3)).alloc (.cells #[.int .i64 0] 25)) (w.heap.size + 1 + 1 + 1) 25 [.int .i64 0] := by
    have := Blk.new (((w.alloc (.cells #[.pointer (some ⟨t, 0, none⟩)] 23)).alloc (.cells #[.int .i64 0] 3)).alloc (.cells #[.int .i64 0] 3)) 25 [.int .i64 0]
    simpa using this
  have hk0 : Keep (fun _ => False) w ((((w.alloc (.cells #[.pointer (some ⟨t, 0, none⟩)] 23)).alloc (.cells #[.int .i64 0] 3)).alloc (.cells #[.int .i64 0] 3)).alloc (.cells #[.int .i64 0] 25)) := (((((Keep.refl _ w).alloc _).alloc _).alloc _).alloc _)
  have hs0 : ((((w.alloc (.cells #[.pointer (some ⟨t, 0, none⟩)] 23)).alloc (.cells #[.int .i64 0] 3)).alloc (.cells #[.int .i64 0] 3)).alloc (.cells #[.int .i64 0] 25)).heap.size = w.heap.size + 1 + 1 + 1 + 1 := by simp
  have HT0 := Lib.hid ht0; have B0 := Lib.hid b0; have B1 := Lib.hid b1; have B2 := Lib.hid b2; have B3 := Lib.hid b3; have HK0 := Lib.hid hk0; have HS0 := Lib.hid hs0; clear ht0 b0 b1 b2 b3 hk0 hs0
  generalize ((((w.alloc (.cells #[.pointer (some ⟨t, 0, none⟩)] 23)).alloc (.cells #[.int .i64 0] 3)).alloc (.cells #[.int .i64 0] 3)).alloc (.cells #[.int .i64 0] 25)) = w0 at *
  refine (callsIn_wide.2 (runs_in t 0 q _ (by omega) hti)).mono ?_
  rintro e w1 ⟨rfl, hb⟩
  have hlt0 : t < w0.heap.size := HT0.out.lt
  have hs1 : w.heap.size + 1 + 1 + 1 + 1 ≤ w1.heap.size := by have := hb.size; have := HS0.out; omega
  have HT1 := Lib.hid (HT0.out.below hb hlt0)
  have C0 := Lib.hid (B0.out.below hb B0.out.lt); have C1 := Lib.hid (B1.out.below hb B1.out.lt); have C2 := Lib.hid (B2.out.below hb B2.out.lt); have C3 := Lib.hid (B3.out.below hb B3.out.lt)
  have HK1 := Lib.hid (HK0.out.trans (Keep.of_below hb))
  have hbx : w1.cell? ⟨w.heap.size, 0, none⟩ = some (.pointer (some ⟨t, 0, none⟩)) := C0.out.cell_of rfl
  have hn0 : w.heap.size ≠ w1.heap.size := by omega
  have hn1 : w.heap.size ≠ w1.heap.size + 1 := by omega
  clear hti B0 B1 B2 B3 HT0 HK0 hb
  have hls : t < w1.heap.size := HT1.out.lt
  gi_wp2_with fail
  refine (callsIn_wide.2 (children_in t 0 _)).mono ?_
  rintro e w3 ⟨rfl, rfl⟩
  gi_wp2
  have ht5 : Tab ((((w1.alloc (.cells #[.int .i64 q] 39)).alloc (.cells #[.int .i64 3] 25)).alloc (.cells #[.pointer (some ⟨t, 0, none⟩)] 23)).alloc (.cells #[.int .i64 0] 3)) t c := (((HT1.out.alloc _).alloc _).alloc _).alloc _
  have d1 := (((C1.out.alloc (.cells #[.int .i64 q] 39)).alloc (.cells #[.int .i64 3] 25)).alloc (.cells #[.pointer (some ⟨t, 0, none⟩)] 23)).alloc (.cells #[.int .i64 0] 3)
  have d2 := (((C2.out.alloc (.cells #[.int .i64 q] 39)).alloc (.cells #[.int .i64 3] 25)).alloc (.cells #[.pointer (some ⟨t, 0, none⟩)] 23)).alloc (.cells #[.int .i64 0] 3)
  have d3 := (((C3.out.alloc (.cells #[.int .i64 q] 39)).alloc (.cells #[.int .i64 3] 25)).alloc (.cells #[.pointer (some ⟨t, 0, none⟩)] 23)).alloc (.cells #[.int .i64 0] 3)
  have d4 := ((Blk.new (w1.alloc (.cells #[.int .i64 q] 39)) 25 [.int .i64 3]).alloc (.cells #[.pointer (some ⟨t, 0, none⟩)] 23)).alloc (.cells #[.int .i64 0] 3)
  have e1 := (Blk.new ((w1.alloc (.cells #[.int .i64 q] 39)).alloc (.cells #[.int .i64 3] 25)) 23 [.pointer (some ⟨t, 0, none⟩)]).alloc (.cells #[.int .i64 0] 3)
  have d0 := (((C0.out.alloc (.cells #[.int .i64 q] 39)).alloc (.cells #[.int .i64 3] 25)).alloc (.cells #[.pointer (some ⟨t, 0, none⟩)] 23)).alloc (.cells #[.int .i64 0] 3)
  have e2 := Blk.new (((w1.alloc (.cells #[.int .i64 q] 39)).alloc (.cells #[.int .i64 3] 25)).alloc (.cells #[.pointer (some ⟨t, 0, none⟩)] 23)) 3 [.int .i64 0]
  have hk5 := (((HK1.out.alloc (.cells #[.int .i64 q] 39)).alloc (.cells #[.int .i64 3] 25)).alloc (.cells #[.pointer (some ⟨t, 0, none⟩)] 23)).alloc (.cells #[.int .i64 0] 3)
  have hs5 : ((((w1.alloc (.cells #[.int .i64 q] 39)).alloc (.cells #[.int .i64 3] 25)).alloc (.cells #[.pointer (some ⟨t, 0, none⟩)] 23)).alloc (.cells #[.int .i64 0] 3)).heap.size = w1.heap.size + 1 + 1 + 1 + 1 := by simp
  simp only [World.size_alloc] at d4 e1 e2
  simp only [List.toArray] at d4 e1 e2
  generalize ((((w1.alloc (.cells #[.int .i64 q] 39)).alloc (.cells #[.int .i64 3] 25)).alloc (.cells #[.pointer (some ⟨t, 0, none⟩)] 23)).alloc (.cells #[.int .i64 0] 3)) = w5 at *
  have HT5 := Lib.hid ht5; have D1 := Lib.hid d1; have E0 := Lib.hid d0; have D2 := Lib.hid d2; have D3 := Lib.hid d3; have D4 := Lib.hid d4; have HK5 := Lib.hid hk5; have HS5 := Lib.hid hs5; have E1 := Lib.hid e1; have E2 := Lib.hid e2; clear ht5 d0 d1 d2 d3 d4 e1 e2 hk5 hs5 hbx HT1 C0 C1 C2 C3 HK1
  refine wpIn_rangeFunc_ownF (α := Kid _ _) rfl (by omega) (gf := 13) (lb := #[.pointer (some ⟨w1.heap.size + 1 + 1, 0, none⟩), .pointer (some ⟨w1.heap.size + 1 + 1 + 1, 0, none⟩)]) (by simp [go_sem]) trivial (enters_of Try.func13 (by kernel_rfl) rfl)
    (kids_stops 4 (w1.heap.size + 1 + 1) (w1.heap.size + 1 + 1 + 1) w5.heap.size t (by omega) 0 c w5 (by rw [HS5.out]; omega) (by rw [HS5.out]; omega) (by rw [HS5.out]; omega) (Nat.le_refl _) (E1.out.cell_of rfl) (E2.out.cell_of rfl) HT5.out) belowK_t (belowK_b (Nat.le_refl _)) (Below.refl _ _) (fun _ => rfl)
    (fun pre W => pre = [] ∧ Below w5.heap.size w5 W) (Left w5 t (w.heap.size + 1) c)
    (OwnFrom.and (ownFrom_pure _ _) (ownFrom_below (Nat.le_refl _) (Nat.le_refl _))) (left_from (by rw [HS5.out]; omega) (by rw [HS5.out]; omega)) ⟨rfl, Below.refl _ _⟩ ?a1 ?assign ?body ?done ?stop
  case assign =>
    intro l x W K hK
    gi_wp2
    exact hK
  case body =>
    rintro l pre ⟨x, hx⟩ W ⟨rfl, hB⟩ hl
    obtain ⟨hx6, px, sx, hcx⟩ := HALL.out x hx
    have f0 := HT5.out.below hB HT5.out.lt
    have f1 := D1.out.below hB D1.out.lt
    have f2 := D2.out.below hB D2.out.lt
    have f3 := D3.out.below hB D3.out.lt
    have c0 := Tab.cell f0 hx6
    rw [hcx] at c0
    have hk0 : Keep (fun _ => False) w5 W := Keep.of_below hB
    have HX := Lib.hid hcx; clear hcx
    have c1 := f1.cell_of (i := 0) rfl; have c2 := f2.cell_of (i := 0) rfl; have c3 := f3.cell_of (i := 0) rfl
    have g0 := f0.frozen x; have g1 := f1.frozen 0; have g2 := f2.frozen 0; have g3 := f3.frozen 0
    have F0 := Lib.hid f0; have F1 := Lib.hid f1; have F2 := Lib.hid f2; have F3 := Lib.hid f3; have HB := Lib.hid hB; have HK0 := Lib.hid hk0; clear f0 f1 f2 f3 hB hk0
    have ety := ty34_43e px sx
    have bx := (E0.out.below HB.out E0.out.lt).cell_of (i := 0) rfl
    have hx6i : (x : Int) < 6 := by omega
    have hx0i : (0 : Int) ≤ (x : Int) := by omega
    gi_wp2
    have lt := HT5.out.lt
    have l5 := HB.out.size
    have h5 := HS5.out
    have v0 : Tab ((W.alloc (.cells #[.int .i64 px, .int .i64 sx] 43)).setCell ⟨t, x, none⟩ (PS.no).enc) t (upd c x .no) := Tab.set_ (F0.out.alloc _) hx6 .no
    have v1 := (F1.out.alloc (.cells #[.int .i64 px, .int .i64 sx] 43)).far (p := ⟨t, x, none⟩) (show w.heap.size + 1 ≠ t by omega) (PS.no).enc
    have v2 := (F2.out.alloc (.cells #[.int .i64 px, .int .i64 sx] 43)).far (p := ⟨t, x, none⟩) (show w.heap.size + 1 + 1 ≠ t by omega) (PS.no).enc
    have v3 := (F3.out.alloc (.cells #[.int .i64 px, .int .i64 sx] 43)).far (p := ⟨t, x, none⟩) (show w.heap.size + 1 + 1 + 1 ≠ t by omega) (PS.no).enc
    have v4 := (Blk.new W 43 [.int .i64 px, .int .i64 sx]).far (p := ⟨t, x, none⟩) (show W.heap.size ≠ t by omega) (PS.no).enc
    have vk : Keep (fun b => b = t ∨ b = w.heap.size + 1 ∨ b = w.heap.size + 1 + 1 ∨ b = w.heap.size + 1 + 1 + 1) w5 ((W.alloc (.cells #[.int .i64 px, .int .i64 sx] 43)).setCell ⟨t, x, none⟩ (PS.no).enc) :=
      ((HK0.out.mono (fun _ h => h.elim)).alloc _).setCell (.inl (.inl rfl)) _
    have vo : KeepsOthers W ((W.alloc (.cells #[.int .i64 px, .int .i64 sx] 43)).setCell ⟨t, x, none⟩ (PS.no).enc) := (KeepsOthers.alloc _ _).trans (KeepsOthers.setCell _ _ _)
    change Code.wpIn _ _ _ _ _ _ ((W.alloc (.cells #[.int .i64 px, .int .i64 sx] 43)).setCell ⟨t, x, none⟩ (PS.no).enc)
    generalize ((W.alloc (.cells #[.int .i64 px, .int .i64 sx] 43)).setCell ⟨t, x, none⟩ (PS.no).enc) = w6 at *
    clear c0 c1 c2 c3 g0 g1 g2 g3 bx
    have c1 := v1.cell_of (i := 0) rfl; have c2 := v2.cell_of (i := 0) rfl; have c3 := v3.cell_of (i := 0) rfl; have c4 := v4.cell_of (i := 1) rfl
    have g1 := v1.frozen 0; have g2 := v2.frozen 0; have g3 := v3.frozen 0
    have V0 := Lib.hid v0; have V1 := Lib.hid v1; have V2 := Lib.hid v2; have V3 := Lib.hid v3; have VK := Lib.hid vk; have VO := Lib.hid vo; clear v0 v1 v2 v3 v4 vk vo lt h5
    have m1 : w.heap.size + 1 ≠ W.heap.size := by have := HS5.out; omega
    have m2 : w.heap.size + 1 + 1 ≠ W.heap.size := by have := HS5.out; omega
    have m3 : w.heap.size + 1 + 1 + 1 ≠ W.heap.size := by have := HS5.out; omega
    gi_region
    all_goals gi_wp2
    all_goals
      have lt := HT5.out.lt
      have l5 := HB.out.size
      have h5 := HS5.out
      have r0 : Tab (((w6.setCell ⟨w.heap.size + 1, 0, none⟩ (.int .i64 x)).setCell ⟨w.heap.size + 1 + 1, 0, none⟩ (.int .i64 sx)).setCell ⟨w.heap.size + 1 + 1 + 1, 0, none⟩ (.int .i64 0)).drew t (upd c x .no) :=
        (((Blk.far V0.out (p := ⟨w.heap.size + 1, 0, none⟩) (show t ≠ w.heap.size + 1 by omega) (.int .i64 x)).far (p := ⟨w.heap.size + 1 + 1, 0, none⟩) (show t ≠ w.heap.size + 1 + 1 by omega) (.int .i64 sx)).far (p := ⟨w.heap.size + 1 + 1 + 1, 0, none⟩) (show t ≠ w.heap.size + 1 + 1 + 1 by omega) (.int .i64 0)).drew
      have r1 := ((((V1.out.set_ 0 (.int .i64 x)).far (p := ⟨w.heap.size + 1 + 1, 0, none⟩) (show w.heap.size + 1 ≠ w.heap.size + 1 + 1 by omega) (.int .i64 sx)).far (p := ⟨w.heap.size + 1 + 1 + 1, 0, none⟩) (show w.heap.size + 1 ≠ w.heap.size + 1 + 1 + 1 by omega) (.int .i64 0))).drew
      have r2 := ((((V2.out.far (p := ⟨w.heap.size + 1, 0, none⟩) (show w.heap.size + 1 + 1 ≠ w.heap.size + 1 by omega) (.int .i64 x)).set_ 0 (.int .i64 sx)).far (p := ⟨w.heap.size + 1 + 1 + 1, 0, none⟩) (show w.heap.size + 1 + 1 ≠ w.heap.size + 1 + 1 + 1 by omega) (.int .i64 0))).drew
      have r3 := ((((V3.out.far (p := ⟨w.heap.size + 1, 0, none⟩) (show w.heap.size + 1 + 1 + 1 ≠ w.heap.size + 1 by omega) (.int .i64 x)).far (p := ⟨w.heap.size + 1 + 1, 0, none⟩) (show w.heap.size + 1 + 1 + 1 ≠ w.heap.size + 1 + 1 by omega) (.int .i64 sx)).set_ 0 (.int .i64 0))).drew
      exact ⟨VO.out.trans ((((KeepsOthers.setCell _ _ _).trans (KeepsOthers.setCell _ _ _)).trans (KeepsOthers.setCell _ _ _)).trans (KeepsOthers.drew _)), rfl, x, px, sx, rfl, HX.out, r1, r2, r3, r0,
        (((VK.out.setCell (.inl (.inr (.inl rfl))) _).setCell (.inl (.inr (.inr (.inl rfl)))) _).setCell (.inl (.inr (.inr (.inr rfl)))) _).drew⟩
  case done =>
    rintro D ys W hD hys ⟨rfl, hB⟩ hK
    have := hys.trans HKD.out
    simp at this
  case stop =>
    rintro D co pre W hD hpre ⟨rfl, x, px, sx, hx, hcx, r1, r2, r3, r0, hk6⟩ hd6
    rw [hx, HKD.out] at hpre
    obtain rfl : x = i := by have := List.cons_prefix_cons.1 hpre; exact this.1
    obtain ⟨rfl, rfl⟩ : px = p ∧ sx = s := by have := hcx.symm.trans HCI.out; injection this with h1 h2; exact ⟨h1, h2⟩
    have hB6 := belowK_b (n₀ := w5.heap.size) (w := w5) (Nat.le_refl _) W D _ (.deferred none) hD hd6 rfl rfl
    have q1 := (r1.below hB6 (by rw [HS5.out]; omega)).cell_of (i := 0) rfl
    have q2 := (r2.below hB6 (by rw [HS5.out]; omega)).cell_of (i := 0) rfl
    have q3 := (r3.below hB6 (by rw [HS5.out]; omega)).cell_of (i := 0) rfl
    have q0 : Hid (Tab (W.putObj D (.deferred none)) t (upd c x .no)) := r0.below hB6 (by rw [HS5.out]; omega)
    have hk7 : Hid (Keep (· = t) w (W.putObj D (.deferred none))) := by
      have := HS5.out
      have h5 := HK5.out.size
      exact ⟨hB6.os.trans (hk6.os.trans HK5.out.os), hB6.tape.trans (hk6.tape.trans HK5.out.tape), hB6.output.trans (hk6.output.trans HK5.out.output), Nat.le_trans (Nat.le_trans h5 hk6.size) hB6.size, fun k hk hs => (hB6.block k (by omega)).trans ((hk6.block k (by omega) (by intro h; rcases h with h | h | h | h; exact hs h; all_goals omega)).trans (HK5.out.block k hk id))⟩
    clear hk6 hB6 r1 r2 r3 r0 hx hpre hcx
    have HD6 := Lib.hid hd6; clear hd6
    gi_wp2
    refine ⟨by simp, .inl ⟨_, _, rfl, run_takeDeferred HD6.out, ?_⟩⟩
    refine ⟨.tuple #[.int .i64 x, .int .i64 sx, .int .i64 0], ?_, rfl, q0.out, hk7.out⟩
    simp [results, Try.f7, go_sem, q1, q2, q3]
end Go.Proofs.Ytjibbdnmobaeiaa
