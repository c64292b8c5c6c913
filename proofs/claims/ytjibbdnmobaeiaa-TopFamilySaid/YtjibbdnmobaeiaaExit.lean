/- Exit of a process without children; Wait where there is no child. -/
import Derived.Test.YtjibbdnmobaeiaaKids
namespace Go.Proofs.Ytjibbdnmobaeiaa
open Go.RowKit Go.Shelf
theorem cell_alloc_some (w : World) (a : Addr) (o : Obj) (h : (w.cell? a).isSome = true) : (w.alloc o).cell? a = w.cell? a := by
  obtain ⟨u, hu⟩ := Option.isSome_iff_exists.1 h
  exact World.cell?_alloc_lt _ _ _ (World.block_lt_of_cell? w a hu)
theorem frozen_alloc_some (w : World) (a : Addr) (o : Obj) (h : (w.cell? a).isSome = true) : (w.alloc o).frozen? a = w.frozen? a := by
  obtain ⟨u, hu⟩ := Option.isSome_iff_exists.1 h
  exact World.frozen?_alloc_old _ _ _ (Nat.ne_of_lt (World.block_lt_of_cell? w a hu))
attribute [local go_sem] Oper.semAt_some
attribute [local go_sem] cell_alloc_some frozen_alloc_some
set_option maxHeartbeats 400000 in
theorem children_in (t : Nat) (p : Int) (w : World) :
    Calls Try.prog 10 #[.pointer (some ⟨t, 0, none⟩), .int .i64 p] w fun e w' => e = .returned (.func (.func 13) #[] #[.pointer (some ⟨w.heap.size, 0, none⟩), .pointer (some ⟨w.heap.size + 1, 0, none⟩)]) ∧
      w' = (w.alloc (.cells #[.pointer (some ⟨t, 0, none⟩)] 23)).alloc (.cells #[.int .i64 p] 3) := by
  go_enter Try.func10, Try.ntmps10
  go_wp2
  go_ret
  exact ⟨rfl, rfl⟩
/-- one that is yielded -/
abbrev Kid (c : Nat → PS) (p : Int) := { x : Nat // x ∈ kids c p 6 }
theorem kids_stops (n Bt Bp n₀ t : Nat) (hn : 2 ≤ n) (p : Int) (c : Nat → PS) (w : World) (hbt : Bt < n₀) (hbp : Bp < n₀) (htn : t < n₀) (hn0 : n₀ ≤ w.heap.size)
    (hcb : w.cell? ⟨Bt, 0, none⟩ = some (.pointer (some ⟨t, 0, none⟩))) (hcp : w.cell? ⟨Bp, 0, none⟩ = some (.int .i64 p)) (ht : Tab w t c) :
    SeqStopsK Fence.wide n Try.prog 13 #[.pointer (some ⟨Bt, 0, none⟩), .pointer (some ⟨Bp, 0, none⟩)] (fun x : Kid c p => #[.int .i64 x.1]) (Below n₀) (fun xs => xs.map (·.1) = kids c p 6) (fun xs => xs.map (·.1) <+: kids c p 6) (kids c p 6).length w := by
  intro l J Jx W hW hJ hJx hY h0
  refine (kids_in l Bt Bp n₀ t p c (fun ys W => ∃ xs : List (Kid c p), xs.map (·.1) = ys ∧ J xs W) (fun ys W => ∃ xs : List (Kid c p), xs.map (·.1) = ys ∧ Jx xs W) n hn ?_ W ?_ hbt hbp htn
    ((hW.cell (p := ⟨Bt, 0, none⟩) (show Bt < _ by omega)).trans hcb) ((hW.cell (p := ⟨Bp, 0, none⟩) (show Bp < _ by omega)).trans hcp) (ht.below hW ht.lt) ⟨[], rfl, h0⟩).mono ?_
  · rintro pre x W1 ⟨xs, rfl, hj⟩ hp
    have hx : x ∈ kids c p 6 := hp.subset (by simp)
    have hl : xs.length < (kids c p 6).length := by have := hp.length_le; simp at this; omega
    refine (hY xs ⟨x, hx⟩ W1 hj hl).mono ?_
    rintro e W2 (⟨rfl, h1, h2⟩ | ⟨rfl, h1⟩)
    · exact .inl ⟨rfl, ⟨_, by simp, h1⟩, h2⟩
    · exact .inr ⟨rfl, ⟨_, by simp, h1⟩⟩
  · rintro s A B row ⟨xs, hx, hj⟩ hg hr
    exact ⟨xs, hx, hJ xs A B row hj hg hr⟩
  · rintro e W' ⟨hv, ⟨ys, rfl, xs, hx, hj⟩ | ⟨ys, hp, xs, rfl, hj⟩⟩
    · exact ⟨hv, .inl ⟨xs, hx, hj⟩⟩
    · exact ⟨hv, .inr ⟨xs, hp, hj⟩⟩
set_option maxRecDepth 100000 in
set_option maxHeartbeats 1000000 in
theorem exit_in (t i : Nat) (q s : Int) (c : Nat → PS) (w : World) (hi1 : 1 ≤ i) (hi : i < 6) (ht : Tab w t c) (hc : c i = .living q)
    (hk : kids (upd c i (.ended q s)) i 6 = []) :
    Calls Try.prog 6 #[.pointer (some ⟨t, 0, none⟩), .int .i64 i, .int .i64 s] w fun e w' => e = .returned (.int .i64 0) ∧ Tab w' t (upd c i (.ended q s)) ∧ Keep (· = t) w w' := by
  have hlt := ht.lt
  have HT := Lib.hid ht; clear ht
  have HC := Lib.hid hc; clear hc
  have HKD := Lib.hid hk; clear hk
  have hi0 : ((i : Int) == 0) = false := by simp; omega
  refine (callsIn_wide (n := 5)).1 ?_
  have hF : ∀ f, Fence.wide.fn f := fun _ => trivial
  refine callsIn_of_wp_marks Try.func6 rfl trivial ?_ rfl
  simp only [Try.ntmps6, List.size_toArray, List.length_cons, List.length_nil, Nat.reduceAdd, Nat.reduceSub, Array.replicate_succ, Array.replicate_zero, List.push_toArray, List.append_toArray, List.nil_append, List.cons_append]
  gi_wp2_with fail
  have ht1 : Tab (w.alloc (.cells #[.pointer (some ⟨t, 0, none⟩)] 23)) t c := HT.out.alloc _
  have hti := ht1.cell hi
  rw [HC.out] at hti
  have HT1 := Lib.hid ht1; clear ht1
  refine (callsIn_wide.2 (runs_in t i q _ hi hti)).mono ?_
  rintro e w1 ⟨rfl, hb⟩
  have hbx : w1.cell? ⟨w.heap.size, 0, none⟩ = some (.pointer (some ⟨t, 0, none⟩)) := (hb.cell (p := ⟨w.heap.size, 0, none⟩) (by simp)).trans (by simp)
  have hti1 : w1.cell? ⟨t, i, none⟩ = some (PS.living q).enc := (hb.cell (p := ⟨t, i, none⟩) (by simp; omega)).trans hti
  have HT2 := Lib.hid (HT1.out.below hb (by simp; omega))
  have hsz : w.heap.size + 1 ≤ w1.heap.size := by have := hb.size; simpa using this
  have hsz2 : w.heap.size < w1.heap.size := hsz
  have ht3 : Tab (w1.alloc (.cells #[.int .i64 q] 39)) t c := HT2.out.alloc _
  have hfz := ht3.frozen i
  have hti2 : (w1.alloc (.cells #[.int .i64 q] 39)).cell? ⟨t, i, none⟩ = some (PS.living q).enc := by rw [ht3.cell hi, HC.out]
  have hbx2 : (w1.alloc (.cells #[.int .i64 q] 39)).cell? ⟨w.heap.size, 0, none⟩ = some (.pointer (some ⟨t, 0, none⟩)) := (World.cell?_alloc_lt _ _ _ hsz2).trans hbx
  have HT3 := Lib.hid ht3; clear ht3
  have hne : w.heap.size ≠ w1.heap.size := by omega
  have hne2 : t ≠ w1.heap.size := by omega
  have hne3 : w.heap.size ≠ t := by omega
  gi_wp2
  gi_region
  have HT4 := Lib.hid (HT3.out.set_ hi (.ended q s)).drew
  have HK4 : Hid (Keep (· = t) w ((w1.alloc (.cells #[.int .i64 q] 39)).setCell ⟨t, i, none⟩ (PS.ended q s).enc).drew) :=
    (Keep.setCell (S := (· = t)) (((Keep.refl _ w).alloc _).trans (Keep.of_below hb) |>.alloc _) (p := ⟨t, i, none⟩) (.inl rfl) _).drew
  have hbx3 : ((w1.alloc (.cells #[.int .i64 q] 39)).setCell ⟨t, i, none⟩ (PS.ended q s).enc).drew.cell? ⟨w.heap.size, 0, none⟩ = some (.pointer (some ⟨t, 0, none⟩)) :=
    (World.cell?_setCell_other _ _ _ _ (by intro e; injection e; omega)).trans hbx2
  clear hti hti1 hti2 hbx hbx2 hfz hne hne2 HT1 HT2 HT3
  change Exit.then _ _ Exit.normal _ ((w1.alloc (.cells #[.int .i64 q] 39)).setCell ⟨t, i, none⟩ (PS.ended q s).enc).drew
  generalize ((w1.alloc (.cells #[.int .i64 q] 39)).setCell ⟨t, i, none⟩ (PS.ended q s).enc).drew = w2 at *
  have hls := HT4.out.lt
  have hlb := World.block_lt_of_cell? w2 _ hbx3
  gi_wp2_with fail
  refine (callsIn_wide.2 (children_in t i w2)).mono ?_
  rintro e w3 ⟨rfl, rfl⟩
  gi_wp2
  have HT5 : Tab ((w2.alloc (.cells #[.pointer (some ⟨t, 0, none⟩)] 23)).alloc (.cells #[.int .i64 i] 3)) t (upd c i (.ended q s)) := (HT4.out.alloc _).alloc _
  refine wpIn_rangeFunc_ownF (α := Kid _ _) rfl (by omega) (gf := 13) (lb := #[.pointer (some ⟨w2.heap.size, 0, none⟩), .pointer (some ⟨w2.heap.size + 1, 0, none⟩)]) rfl trivial (enters_of Try.func13 (by kernel_rfl) rfl)
    (kids_stops 4 w2.heap.size (w2.heap.size + 1) (w2.heap.size + 2) t (by omega) i (upd c i (.ended q s)) _ (by omega) (by omega) (by omega) (by simp) (by simp) (by simp) HT5) belowK_t (belowK_b (by simp)) (Below.refl _ _) (fun _ => rfl)
    (fun _ W => Below (w2.heap.size + 2) ((w2.alloc (.cells #[.pointer (some ⟨t, 0, none⟩)] 23)).alloc (.cells #[.int .i64 i] 3)) W) (fun _ _ _ => False)
    (ownFrom_below (by simp) (by simp)) (fun _ _ _ _ _ hs _ _ => hs) (Below.refl _ _) ?a1 ?assign ?body ?done ?stop
  case assign =>
    intro l x W K hK
    gi_wp2
    exact hK
  case body =>
    rintro l pre x W _ hl
    rw [HKD.out] at hl
    simp at hl
  case done =>
    rintro D ys W hD _ hB hK
    gi_wp2
    refine ⟨by simp, .inl ⟨_, _, rfl, run_takeDeferred hK, ?_⟩⟩
    have hB2 := hB.trans (belowK_b (n₀ := w2.heap.size + 2) (w := (w2.alloc (.cells #[.pointer (some ⟨t, 0, none⟩)] 23)).alloc (.cells #[.int .i64 i] 3)) (by simp) W D _ (.deferred none) hD hK rfl rfl)
    exact ⟨_, results_tmp rfl _ _ _, rfl, HT5.below hB2 (by omega), (HK4.out.alloc _).alloc _ |>.trans (Keep.of_below (hB2.mono (by simp)))⟩
  case stop =>
    rintro D c pre W hD hpre h hK
    exact h.elim

set_option maxRecDepth 100000 in
set_option maxHeartbeats 1000000 in
theorem wait_none (t : Nat) (q : Int) (c : Nat → PS) (w : World) (ht : Tab w t c) (hc : c 0 = .living q) (hk : kids c 0 6 = []) :
    Calls Try.prog 7 #[.pointer (some ⟨t, 0, none⟩), .int .i64 0] w fun e w' => e = .returned (.tuple #[.int .i64 0, .int .i64 0, .int .i64 3]) ∧ Keep (fun _ => False) w w' := by
  have hlt := ht.lt
  have HT := Lib.hid ht; clear ht
  have HC := Lib.hid hc; clear hc
  have HKD := Lib.hid hk; clear hk
  refine (callsIn_wide (n := 5)).1 ?_
  have hF : ∀ f, Fence.wide.fn f := fun _ => trivial
  refine callsIn_of_wp_marks Try.func7 rfl trivial ?_ rfl
  simp only [Try.ntmps7, List.size_toArray, List.length_cons, List.length_nil, Nat.reduceAdd, Nat.reduceSub, Array.replicate_succ, Array.replicate_zero, List.push_toArray, List.append_toArray, List.nil_append, List.cons_append]
  gi_wp2_with fail
  have ht0 : Tab ((((w.alloc (.cells #[.pointer (some ⟨t, 0, none⟩)] 23)).alloc (.cells #[.int .i64 0] 3)).alloc (.cells #[.int .i64 0] 3)).alloc (.cells #[.int .i64 0] 25)) t c := (((HT.out.alloc _).alloc _).alloc _).alloc _
  have hti := ht0.cell (k := 0) (by omega)
  rw [HC.out] at hti
  have b0 : Blk ((((w.alloc (.cells #[.pointer (some ⟨t, 0, none⟩)] 23)).alloc (.cells #[.int .i64 0] 3)).alloc (.cells #[.int .i64 0] 3)).alloc (.cells #[.int .i64 0] 25)) w.heap.size 23 [.pointer (some ⟨t, 0, none⟩)] := (((Blk.new w _ _).alloc _).alloc _).alloc _
  have b1 : Blk ((((w.alloc (.cells #[.pointer (some ⟨t, 0, none⟩)] 23)).alloc (.cells #[.int .i64 0] 3)).alloc (.cells #[.int .i64 0] 3)).alloc (.cells #[.int .i64 0] 25)) (w.heap.size + 1) 3 [.int .i64 0] := by
    have := ((Blk.new (w.alloc (.cells #[.pointer (some ⟨t, 0, none⟩)] 23)) 3 [.int .i64 0]).alloc (.cells #[.int .i64 0] 3)).alloc (.cells #[.int .i64 0] 25)
    simpa using this
  have b2 : Blk ((((w.alloc (.cells #[.pointer (some ⟨t, 0, none⟩)] 23)).alloc (.cells #[.int .i64 0] 3)).alloc (.cells #[.int .i64 0] 3)).alloc (.cells #[.int .i64 0] 25)) (w.heap.size + 1 + 1) 3 [.int .i64 0] := by
    have := (Blk.new ((w.alloc (.cells #[.pointer (some ⟨t, 0, none⟩)] 23)).alloc (.cells #[.int .i64 0] 3)) 3 [.int .i64 0]).alloc (.cells #[.int .i64 0] 25)
    simpa using this
  have b3 : Blk ((((w.alloc (.cells #[.pointer (some ⟨t, 0, none⟩)] 23)).alloc (.cells #[.int .i64 0] 3)).alloc (.cells #[.int .i64 0] 3)).alloc (.cells #[.int .i64 0] 25)) (w.heap.size + 1 + 1 + 1) 25 [.int .i64 0] := by
    have := Blk.new (((w.alloc (.cells #[.pointer (some ⟨t, 0, none⟩)] 23)).alloc (.cells #[.int .i64 0] 3)).alloc (.cells #[.int .i64 0] 3)) 25 [.int .i64 0]
    simpa using this
  have hk0 : Keep (fun _ => False) w ((((w.alloc (.cells #[.pointer (some ⟨t, 0, none⟩)] 23)).alloc (.cells #[.int .i64 0] 3)).alloc (.cells #[.int .i64 0] 3)).alloc (.cells #[.int .i64 0] 25)) := (((((Keep.refl _ w).alloc _).alloc _).alloc _).alloc _)
  have hs0 : ((((w.alloc (.cells #[.pointer (some ⟨t, 0, none⟩)] 23)).alloc (.cells #[.int .i64 0] 3)).alloc (.cells #[.int .i64 0] 3)).alloc (.cells #[.int .i64 0] 25)).heap.size = w.heap.size + 1 + 1 + 1 + 1 := by simp
  have HT0 := Lib.hid ht0; have B0 := Lib.hid b0; have B1 := Lib.hid b1; have B2 := Lib.hid b2; have B3 := Lib.hid b3; have HK0 := Lib.hid hk0; have HS0 := Lib.hid hs0; clear ht0 b0 b1 b2 b3 hk0 hs0
  generalize ((((w.alloc (.cells #[.pointer (some ⟨t, 0, none⟩)] 23)).alloc (.cells #[.int .i64 0] 3)).alloc (.cells #[.int .i64 0] 3)).alloc (.cells #[.int .i64 0] 25)) = w0 at *
  refine (callsIn_wide.2 (runs_in t 0 q _ (by omega) hti)).mono ?_
  rintro e w1 ⟨rfl, hb⟩
  have hlt0 : t < w0.heap.size := HT0.out.lt
  have hs1 : w.heap.size + 1 + 1 + 1 + 1 ≤ w1.heap.size := by have := hb.size; have := HS0.out; omega
  have HT1 := Lib.hid (HT0.out.below hb hlt0)
  have C0 := Lib.hid (B0.out.below hb B0.out.lt); have C1 := Lib.hid (B1.out.below hb B1.out.lt); have C2 := Lib.hid (B2.out.below hb B2.out.lt); have C3 := Lib.hid (B3.out.below hb B3.out.lt)
  have HK1 := Lib.hid (HK0.out.trans (Keep.of_below hb))
  have hbx : w1.cell? ⟨w.heap.size, 0, none⟩ = some (.pointer (some ⟨t, 0, none⟩)) := C0.out.cell_of rfl
  have hn0 : w.heap.size ≠ w1.heap.size := by omega
  have hn1 : w.heap.size ≠ w1.heap.size + 1 := by omega
  clear hti B0 B1 B2 B3 HT0 HK0 hb
  have hls : t < w1.heap.size := HT1.out.lt
  gi_wp2_with fail
  refine (callsIn_wide.2 (children_in t 0 _)).mono ?_
  rintro e w3 ⟨rfl, rfl⟩
  gi_wp2
  have ht5 : Tab ((((w1.alloc (.cells #[.int .i64 q] 39)).alloc (.cells #[.int .i64 3] 25)).alloc (.cells #[.pointer (some ⟨t, 0, none⟩)] 23)).alloc (.cells #[.int .i64 0] 3)) t c := (((HT1.out.alloc _).alloc _).alloc _).alloc _
  have d1 := (((C1.out.alloc (.cells #[.int .i64 q] 39)).alloc (.cells #[.int .i64 3] 25)).alloc (.cells #[.pointer (some ⟨t, 0, none⟩)] 23)).alloc (.cells #[.int .i64 0] 3)
  have d2 := (((C2.out.alloc (.cells #[.int .i64 q] 39)).alloc (.cells #[.int .i64 3] 25)).alloc (.cells #[.pointer (some ⟨t, 0, none⟩)] 23)).alloc (.cells #[.int .i64 0] 3)
  have d3 := (((C3.out.alloc (.cells #[.int .i64 q] 39)).alloc (.cells #[.int .i64 3] 25)).alloc (.cells #[.pointer (some ⟨t, 0, none⟩)] 23)).alloc (.cells #[.int .i64 0] 3)
  have d4 := ((Blk.new (w1.alloc (.cells #[.int .i64 q] 39)) 25 [.int .i64 3]).alloc (.cells #[.pointer (some ⟨t, 0, none⟩)] 23)).alloc (.cells #[.int .i64 0] 3)
  have e1 := (Blk.new ((w1.alloc (.cells #[.int .i64 q] 39)).alloc (.cells #[.int .i64 3] 25)) 23 [.pointer (some ⟨t, 0, none⟩)]).alloc (.cells #[.int .i64 0] 3)
  have e2 := Blk.new (((w1.alloc (.cells #[.int .i64 q] 39)).alloc (.cells #[.int .i64 3] 25)).alloc (.cells #[.pointer (some ⟨t, 0, none⟩)] 23)) 3 [.int .i64 0]
  have hk5 := (((HK1.out.alloc (.cells #[.int .i64 q] 39)).alloc (.cells #[.int .i64 3] 25)).alloc (.cells #[.pointer (some ⟨t, 0, none⟩)] 23)).alloc (.cells #[.int .i64 0] 3)
  have hs5 : ((((w1.alloc (.cells #[.int .i64 q] 39)).alloc (.cells #[.int .i64 3] 25)).alloc (.cells #[.pointer (some ⟨t, 0, none⟩)] 23)).alloc (.cells #[.int .i64 0] 3)).heap.size = w1.heap.size + 1 + 1 + 1 + 1 := by simp
  simp only [World.size_alloc] at d4 e1 e2
  simp only [List.toArray] at d4 e1 e2
  generalize ((((w1.alloc (.cells #[.int .i64 q] 39)).alloc (.cells #[.int .i64 3] 25)).alloc (.cells #[.pointer (some ⟨t, 0, none⟩)] 23)).alloc (.cells #[.int .i64 0] 3)) = w5 at *
  have HT5 := Lib.hid ht5; have D1 := Lib.hid d1; have D2 := Lib.hid d2; have D3 := Lib.hid d3; have D4 := Lib.hid d4; have HK5 := Lib.hid hk5; have HS5 := Lib.hid hs5; have E1 := Lib.hid e1; have E2 := Lib.hid e2; clear ht5 d1 d2 d3 d4 e1 e2 hk5 hs5 hbx HT1 C0 C1 C2 C3 HK1
  refine wpIn_rangeFunc_ownF (α := Kid _ _) rfl (by omega) (gf := 13) (lb := #[.pointer (some ⟨w1.heap.size + 1 + 1, 0, none⟩), .pointer (some ⟨w1.heap.size + 1 + 1 + 1, 0, none⟩)]) (by simp [go_sem]) trivial (enters_of Try.func13 (by kernel_rfl) rfl)
    (kids_stops 4 (w1.heap.size + 1 + 1) (w1.heap.size + 1 + 1 + 1) w5.heap.size t (by omega) 0 c w5 (by rw [HS5.out]; omega) (by rw [HS5.out]; omega) (by rw [HS5.out]; omega) (Nat.le_refl _) (E1.out.cell_of rfl) (E2.out.cell_of rfl) HT5.out) belowK_t (belowK_b (Nat.le_refl _)) (Below.refl _ _) (fun _ => rfl)
    (fun _ W => Below w5.heap.size w5 W) (fun _ _ _ => False)
    (ownFrom_below (Nat.le_refl _) (Nat.le_refl _)) (fun _ _ _ _ _ hs _ _ => hs) (Below.refl _ _) ?a1 ?assign ?body ?done ?stop
  case assign =>
    intro l x W K hK
    gi_wp2
    exact hK
  case body =>
    rintro l pre x W _ hl
    rw [HKD.out] at hl
    simp at hl
  case done =>
    rintro D ys W hD _ hB hK
    have f1 := D1.out.below hB D1.out.lt
    have f2 := D2.out.below hB D2.out.lt
    have f3 := D3.out.below hB D3.out.lt
    have f4 := D4.out.below hB D4.out.lt
    have c1 := f1.cell_of (i := 0) rfl; have c2 := f2.cell_of (i := 0) rfl; have c3 := f3.cell_of (i := 0) rfl; have c4 := f4.cell_of (i := 0) rfl
    have g1 := f1.frozen 0; have g2 := f2.frozen 0; have g3 := f3.frozen 0
    have F1 := Lib.hid f1; have F2 := Lib.hid f2; have F3 := Lib.hid f3; have HB := Lib.hid hB; have HD := Lib.hid hK; clear f1 f2 f3 f4 hB hK
    have hn2 : w.heap.size + 1 + 1 ≠ w1.heap.size + 1 := by omega
    have hn3 : w.heap.size + 1 ≠ w1.heap.size + 1 := by omega
    have hn4 : w.heap.size + 1 + 1 + 1 ≠ w1.heap.size + 1 := by omega
    gi_wp2
    gi_region
    have hk6 : Keep (fun b => b = w.heap.size + 1 ∨ b = w.heap.size + 1 + 1 ∨ b = w.heap.size + 1 + 1 + 1) w5 (((W.setCell ⟨w.heap.size + 1, 0, none⟩ (.int .i64 0)).setCell ⟨w.heap.size + 1 + 1, 0, none⟩ (.int .i64 0)).setCell ⟨w.heap.size + 1 + 1 + 1, 0, none⟩ (.int .i64 3)).drew :=
      ((((Keep.of_below HB.out).setCell (.inl (.inl rfl)) _).setCell (.inl (.inr (.inl rfl))) _).setCell (.inl (.inr (.inr rfl))) _).drew
    have r1 := ((((F1.out.set_ 0 (.int .i64 0)).far (p := ⟨w.heap.size + 1 + 1, 0, none⟩) (show w.heap.size + 1 ≠ w.heap.size + 1 + 1 by omega) (.int .i64 0)).far (p := ⟨w.heap.size + 1 + 1 + 1, 0, none⟩) (show w.heap.size + 1 ≠ w.heap.size + 1 + 1 + 1 by omega) (.int .i64 3))).drew
    have r2 := ((((F2.out.far (p := ⟨w.heap.size + 1, 0, none⟩) (show w.heap.size + 1 + 1 ≠ w.heap.size + 1 by omega) (.int .i64 0)).set_ 0 (.int .i64 0)).far (p := ⟨w.heap.size + 1 + 1 + 1, 0, none⟩) (show w.heap.size + 1 + 1 ≠ w.heap.size + 1 + 1 + 1 by omega) (.int .i64 3))).drew
    have r3 := ((((F3.out.far (p := ⟨w.heap.size + 1, 0, none⟩) (show w.heap.size + 1 + 1 + 1 ≠ w.heap.size + 1 by omega) (.int .i64 0)).far (p := ⟨w.heap.size + 1 + 1, 0, none⟩) (show w.heap.size + 1 + 1 + 1 ≠ w.heap.size + 1 + 1 by omega) (.int .i64 0)).set_ 0 (.int .i64 3))).drew
    have hd6 : (((W.setCell ⟨w.heap.size + 1, 0, none⟩ (.int .i64 0)).setCell ⟨w.heap.size + 1 + 1, 0, none⟩ (.int .i64 0)).setCell ⟨w.heap.size + 1 + 1 + 1, 0, none⟩ (.int .i64 3)).drew.heap[D]? = some (.deferred (some [])) := by
      have := HS5.out
      refine (Below.heap_setCell _ _ _ D (show D ≠ w.heap.size + 1 + 1 + 1 by omega)).trans ((Below.heap_setCell _ _ _ D (show D ≠ w.heap.size + 1 + 1 by omega)).trans ((Below.heap_setCell _ _ _ D (show D ≠ w.heap.size + 1 by omega)).trans HD.out))
    generalize (((W.setCell ⟨w.heap.size + 1, 0, none⟩ (.int .i64 0)).setCell ⟨w.heap.size + 1 + 1, 0, none⟩ (.int .i64 0)).setCell ⟨w.heap.size + 1 + 1 + 1, 0, none⟩ (.int .i64 3)).drew = w6 at *
    have hB6 := belowK_b (n₀ := w5.heap.size) (w := w5) (Nat.le_refl _) w6 D _ (.deferred none) hD hd6 rfl rfl
    have q1 := (r1.below hB6 (by rw [HS5.out]; omega)).cell_of (i := 0) rfl
    have q2 := (r2.below hB6 (by rw [HS5.out]; omega)).cell_of (i := 0) rfl
    have q3 := (r3.below hB6 (by rw [HS5.out]; omega)).cell_of (i := 0) rfl
    have hk7 : Hid (Keep (fun _ => False) w (w6.putObj D (.deferred none))) := by
      have := HS5.out
      have h5 := HK5.out.size
      refine ⟨hB6.os.trans (hk6.os.trans HK5.out.os), hB6.tape.trans (hk6.tape.trans HK5.out.tape), hB6.output.trans (hk6.output.trans HK5.out.output), Nat.le_trans (Nat.le_trans h5 hk6.size) hB6.size, fun k hk _ => (hB6.block k (by omega)).trans ((hk6.block k (by omega) (by omega)).trans (HK5.out.block k hk id))⟩
    clear hk6 hB6 r1 r2 r3
    have HD6 := Lib.hid hd6; clear hd6
    gi_wp2
    refine ⟨by simp, .inl ⟨_, _, rfl, run_takeDeferred HD6.out, ?_⟩⟩
    refine ⟨.tuple #[.int .i64 0, .int .i64 0, .int .i64 3], ?_, rfl, hk7.out⟩
    simp [results, Try.f7, go_sem, q1, q2, q3]
  case stop =>
    rintro D c pre W hD hpre h hK
    exact h.elim
end Go.Proofs.Ytjibbdnmobaeiaa
