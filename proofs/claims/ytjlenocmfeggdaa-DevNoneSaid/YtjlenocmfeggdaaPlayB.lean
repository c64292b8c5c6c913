/- The walk of play. -/
import Derived.Test.YtjlenocmfeggdaaPlayA
import Derived.Laws.ResultCell
namespace Go.Proofs.Ytjlenocmfeggdaa
open Go.RowKit
attribute [local go_sem] cell_alloc_some frozen_alloc_some
theorem boxed {W : World} {g : Nat} {p0 p1 p2 p3 : Value} (hb : Blk W g 29 [p0, p1, p2, p3]) (q0 q1 q2 q3 : Value) {W' : World} (hW : W' = ((((W.setCell ⟨g, 0, none⟩ q0).setCell ⟨g, 1, none⟩ q1).setCell ⟨g, 2, none⟩ q2).setCell ⟨g, 3, none⟩ q3)) : Blk W' g 29 [q0, q1, q2, q3] ∧ Keep (· = g) W W' := by
  subst hW
  exact ⟨(((hb.set_ 0 q0).set_ 1 q1).set_ 2 q2).set_ 3 q3, Keep.setCell (S := (· = g)) (p := ⟨g, 3, none⟩) (Keep.setCell (S := (· = g)) (p := ⟨g, 2, none⟩) (Keep.setCell (S := (· = g)) (p := ⟨g, 1, none⟩) (Keep.setCell (S := (· = g)) (p := ⟨g, 0, none⟩) (Keep.refl _ W) (.inl rfl) _) (.inl rfl) _) (.inl rfl) _) (.inl rfl) _⟩
set_option maxRecDepth 100000 in
set_option maxHeartbeats 1000000 in
theorem play_any (w : World) (v : Value) (ds : List Deed) (hd : Deeds w v ds) :
    Calls Try.prog 10 #[v] w fun e w' => ∃ D M R Q, e = .returned (.tuple #[.agg (xcells D M R Q).toArray, .bool true]) ∧ Two w w' D M R Q (playS ds) (playS ds) none_ := by
  obtain ⟨wa, hwa⟩ : ∃ wa, wa = w.alloc (.cells #[.pointer none, .pointer none, .pointer none, .pointer none] 29) := ⟨_, rfl⟩
  have hka : Keep none_ w wa := by rw [hwa]; exact (Keep.refl _ w).alloc _
  have hB2 : Blk wa w.heap.size 29 [.pointer none, .pointer none, .pointer none, .pointer none] := by rw [hwa]; exact Blk.new w 29 _
  have H0 := Lib.hid (fresh1 wa wa (Keep.refl none_ wa) 5 4 (by decide) (by decide) (by decide) (by decide))
  have HD := Lib.hid hd
  have HWA := Lib.hid hwa
  have HKA := Lib.hid hka
  have HB2 := Lib.hid hB2
  obtain ⟨A, n, cap, rfl, hn, hn63⟩ : ∃ A n cap, v = .slice A n cap ∧ n = ds.length ∧ n ≤ 9223372036854775807 := by
    rcases hd with ⟨rfl, rfl⟩ | ⟨a, cap, rfl, hl, _⟩
    · exact ⟨none, 0, 0, rfl, rfl, by omega⟩
    · exact ⟨_, _, cap, rfl, rfl, by unfold maxLen at hl; omega⟩
  have HN := Lib.hid hn
  clear hd hn hwa hka hB2
  go_enter Try.func10, Try.ntmps10
  go_wp2_with fail
  rw [← HWA.out]
  refine H0.out.mono ?_
  rintro e w1 ⟨D, rfl, hk1, h1⟩
  replace h1 := Lib.hid h1
  clear hk1 H0
  go_wp2_with fail
  refine h1.out.mono ?_
  rintro e w2 ⟨M, rfl, h2⟩
  have h3 := Lib.hid (fresh2 (n2 := 5) (m2 := 4) h2 (by decide) (by decide) (by decide) (by decide))
  clear h2 h1
  go_wp2_with fail
  refine h3.out.mono ?_
  rintro e w3 ⟨R, rfl, hk3, h4⟩
  replace h4 := Lib.hid h4
  clear hk3 h3
  go_wp2_with fail
  refine h4.out.mono ?_
  rintro e w4 ⟨Q, rfl, h5⟩
  obtain ⟨wb, hwb⟩ : ∃ wb, wb = w4.alloc (.cells (xcells D M R Q).toArray 29) := ⟨_, rfl⟩
  have hkb : Keep none_ w4 wb := by rw [hwb]; exact (Keep.refl _ w4).alloc _
  have HB4 : Hid (Blk wb w4.heap.size 29 (xcells D M R Q)) := by rw [hwb]; exact Blk.new w4 29 _
  have HE : Hid (Two wb wb D M R Q P0 P0 (mid wa w4 none_)) := h5.enter hkb
  have HLV : Hid (∀ {V : World} {S : St}, Two wb V D M R Q S S (mid wa w4 none_) → Two wa V D M R Q S S none_) := fun h => h.leave hkb h5.keep
  have HSZ : Hid (wa.heap.size ≤ w4.heap.size) := h5.keep.size
  have HWB := Lib.hid hwb
  clear hwb hkb h5 h4
  unfold xcells at HWB
  go_wp2_with fail
  rw [← HWB.out]
  have HST : Hid (Two wb wb D M R Q (runS P0 ds 0) (runS P0 ds 0) (mid wa w4 none_)) := HE.out
  go_loopw [5] (fun x wr => ∃ k : Nat, k ≤ n ∧ k ≤ 30 ∧ x = .int .i64 k ∧ Hid (Two wb wr D M R Q (runS P0 ds k) (runS P0 ds k) (mid wa w4 none_))) (fun x _ => 30 - (intOf x).toNat)
  case atStart => exact ⟨0, by omega, by omega, rfl, HST⟩
  case round =>
    obtain ⟨k, hk, hk50, rfl, HK⟩ := hrel
    have hle : (runS P0 ds k).last ≤ 1000 := by have h1 := run_last P0 ds k; have h3 : P0.last = 0 := rfl; omega
    by_cases hkn : k < n
    · by_cases hk2 : k < 30
      · have i0 : (0 : Int) ≤ (k : Int) := by omega
        have i1 : (k : Int) < (n : Int) := by omega
        have i2 : (k : Int) < 30 := by omega
        have HF := HLV.out HK.out
        have hds := HD.out.keep (HKA.out.trans HF.keep)
        have HA2 : wa.heap.size = w.heap.size + 1 := by rw [HWA.out]; simp
        obtain ⟨d, hdk⟩ : ∃ d, ds[k]? = some d := ⟨_, List.getElem?_eq_getElem (by have := HN.out; omega)⟩
        rcases HD.out with ⟨h0, _⟩ | ⟨a, cap', he, _, hcw, hby⟩
        · rw [h0] at hdk; simp at hdk
        rcases hds with ⟨h0, _⟩ | ⟨a', cap'', he', _, hc, _⟩
        · rw [h0] at hdk; simp at hdk
        injection he with e1 e2 e3
        injection he' with e1' e2' e3'
        subst e1
        injection e1' with e1'
        subst e1'
        have hbd := hby d (List.mem_of_getElem? hdk)
        obtain ⟨c0, c1, c2, c3, c4, c5, c6, c7⟩ := deed_cells (hc k d hdk)
        have hwb : Keep none_ w wb := HKA.out.trans ((HLV.out HE.out).keep)
        have hrun : doS (runS P0 ds k) d = runS P0 ds (k + 1) := by show _ = doS (runS P0 ds k) (ds.getD k _); rw [List.getD_eq_getElem?_getD, hdk]; rfl
        have hbG : ∀ ad n c, d.bv = .slice (some ad) n c → 0 < n → ¬ mid wa w4 none_ ad.block := fun ad n c e hn hm => by
          have h1 := hbd.2 ad n c e hn
          rcases hm.1 with h | h
          · exact h
          · omega
        have hdo : ∀ V, Two wb V D M R Q (runS P0 ds k) (runS P0 ds k) (mid wa w4 none_) → Calls Try.prog 34 #[.agg (xcells D M R Q).toArray, .agg (dcells d).toArray] V fun e w' => e = .returned (.bool true) ∧ Two wb w' D M R Q (runS P0 ds (k + 1)) (runS P0 ds (k + 1)) (mid wa w4 none_) := fun V h => by
          have := do_any h hle d (hbd.1.keep0 hwb) hbG
          rw [hrun] at this
          exact this
        replace hdo := Lib.hid hdo
        have hb4 := HB4.out.keep HK.out.keep (fun hm => by have := hm.2; omega)
        have HD4 := Lib.hid (HK.out.keep0 ((Keep.refl none_ wr).drew))
        have q0 := hb4.cell_of (i := 0) rfl
        have q1 := hb4.cell_of (i := 1) rfl
        have q2 := hb4.cell_of (i := 2) rfl
        have q3 := hb4.cell_of (i := 3) rfl
        have HCE : Hid (∀ {V : World} {S : St}, Two wb V D M R Q S S (mid wa w4 none_) → (V.cell? ⟨w4.heap.size, 0, none⟩ = some (.pointer (some ⟨D, 0, none⟩)) ∧ V.cell? ⟨w4.heap.size, 1, none⟩ = some (.pointer (some ⟨M, 0, none⟩)) ∧ V.cell? ⟨w4.heap.size, 2, none⟩ = some (.pointer (some ⟨R, 0, none⟩)) ∧ V.cell? ⟨w4.heap.size, 3, none⟩ = some (.pointer (some ⟨Q, 0, none⟩))) ∧ V.cell? (a.add (k * 8)) = some (.int .i64 d.op) ∧ V.cell? ⟨(a.add (k * 8)).block, (a.add (k * 8)).off + 1, none⟩ = some (.int .i64 d.i) ∧ V.cell? ⟨(a.add (k * 8)).block, (a.add (k * 8)).off + 2, none⟩ = some (.int .u32 d.r.id) ∧
            V.cell? ⟨(a.add (k * 8)).block, (a.add (k * 8)).off + 3, none⟩ = some (.bool d.r.wr) ∧ V.cell? ⟨(a.add (k * 8)).block, (a.add (k * 8)).off + 4, none⟩ = some (.int .i64 d.r.sec) ∧
            V.cell? ⟨(a.add (k * 8)).block, (a.add (k * 8)).off + 5, none⟩ = some (.int .i64 d.r.fr) ∧ V.cell? ⟨(a.add (k * 8)).block, (a.add (k * 8)).off + 6, none⟩ = some (.int .u8 d.r.own) ∧ V.cell? ⟨(a.add (k * 8)).block, (a.add (k * 8)).off + 7, none⟩ = some d.bv) := fun {V S} h => by
          have hb := HB4.out.keep h.keep (fun hm => by have := hm.2; omega)
          have hkk : Keep none_ w V := HKA.out.trans (HLV.out h).keep
          refine ⟨⟨hb.cell_of (i := 0) rfl, hb.cell_of (i := 1) rfl, hb.cell_of (i := 2) rfl, hb.cell_of (i := 3) rfl⟩, deed_cells fun j u hu => ?_⟩
          have h1 := hcw k d hdk j u hu
          exact (hkk.cell (World.block_lt_of_cell? w _ h1) id).trans h1
        have HL := Lib.hid i1
        obtain ⟨op, ix, ⟨rid, rwr, rsec, rfr, rown⟩, bb, bv⟩ := d
        simp only at c0 c1 c2 c3 c4 c5 c6 c7 HCE
        clear hcw hc e2 e3 e2' e3' hdk hrun hle hb4 hwb hbG hbd hby HF HA2
        unfold dcells xcells at hdo
        simp only at hdo
        go_wp2_with fail
        go_region_held3 (fun X => X.cell? ⟨w4.heap.size, 0, none⟩ = some (.pointer (some ⟨D, 0, none⟩)) ∧ X.cell? ⟨w4.heap.size, 1, none⟩ = some (.pointer (some ⟨M, 0, none⟩)) ∧ X.cell? ⟨w4.heap.size, 2, none⟩ = some (.pointer (some ⟨R, 0, none⟩)) ∧ X.cell? ⟨w4.heap.size, 3, none⟩ = some (.pointer (some ⟨Q, 0, none⟩)) ∧ X.cell? (a.add (k * 8)) = some (.int .i64 op) ∧ X.cell? ⟨(a.add (k * 8)).block, (a.add (k * 8)).off + 1, none⟩ = some (.int .i64 ix) ∧ X.cell? ⟨(a.add (k * 8)).block, (a.add (k * 8)).off + 2, none⟩ = some (.int .u32 rid) ∧ X.cell? ⟨(a.add (k * 8)).block, (a.add (k * 8)).off + 3, none⟩ = some (.bool rwr) ∧ X.cell? ⟨(a.add (k * 8)).block, (a.add (k * 8)).off + 4, none⟩ = some (.int .i64 rsec) ∧ X.cell? ⟨(a.add (k * 8)).block, (a.add (k * 8)).off + 5, none⟩ = some (.int .i64 rfr) ∧ X.cell? ⟨(a.add (k * 8)).block, (a.add (k * 8)).off + 6, none⟩ = some (.int .u8 rown) ∧ X.cell? ⟨(a.add (k * 8)).block, (a.add (k * 8)).off + 7, none⟩ = some bv)
          (first | exact ⟨q0, q1, q2, q3, c0, c1, c2, c3, c4, c5, c6, c7⟩ | exact ⟨r0, r1, r2, r3, z0, z1, z2, z3, z4, z5, z6, z7⟩ | go_keep)
          (first | (go_at_call 34; refine Calls.mono (by exact hdo.out _ HD4.out) ?_; rintro e w5 ⟨rfl, ht⟩; obtain ⟨⟨r0, r1, r2, r3⟩, z0, z1, z2, z3, z4, z5, z6, z7⟩ := HCE.out ht; have HT := Lib.hid ht; clear ht))
        go_wp2
        go_roundw
        case rel => exact ⟨k + 1, by omega, by omega, by go_num, HT⟩
        case measure => simp [intOf]; omega
      · have i1 : (k : Int) < (n : Int) := by omega
        have i2 : ¬ (k : Int) < 30 := by omega
        have hp : playS ds = runS P0 ds k := by unfold playS; rw [show min ds.length 30 = k by have := HN.out; omega]
        have HF : Hid (Two wb wr D M R Q (playS ds) (playS ds) (mid wa w4 none_)) := by rw [hp]; exact HK.out
        have hb4 := HB4.out.keep HK.out.keep (fun hm => by have := hm.2; omega)
        have q0 := hb4.cell_of (i := 0) rfl
        have q1 := hb4.cell_of (i := 1) rfl
        have q2 := hb4.cell_of (i := 2) rfl
        have q3 := hb4.cell_of (i := 3) rfl
        have hb2 := HB2.out.keep (HLV.out HF.out).keep id
        clear hp hb4
        have fr0 := hb2.frozen 0
        have fr1 := hb2.frozen 1
        have fr2 := hb2.frozen 2
        have fr3 := hb2.frozen 3
        have hsz : w.heap.size < w4.heap.size := by have h1 := HSZ.out; have : wa.heap.size = w.heap.size + 1 := by { rw [HWA.out]; simp }; omega
        have hne : w.heap.size ≠ w4.heap.size := by omega
        have hne' : w4.heap.size ≠ w.heap.size := by omega
        have z0 := hb2.cell_of (i := 0) rfl
        have z1 := hb2.cell_of (i := 1) rfl
        have z2 := hb2.cell_of (i := 2) rfl
        have z3 := hb2.cell_of (i := 3) rfl
        go_wp2_with fail
        go_region
        obtain ⟨wf, hwf⟩ : ∃ wf, wf = ((((wr.setCell ⟨w.heap.size, 0, none⟩ (.pointer (some ⟨D, 0, none⟩))).setCell ⟨w.heap.size, 1, none⟩ (.pointer (some ⟨M, 0, none⟩))).setCell ⟨w.heap.size, 2, none⟩ (.pointer (some ⟨R, 0, none⟩))).setCell ⟨w.heap.size, 3, none⟩ (.pointer (some ⟨Q, 0, none⟩))) := ⟨_, rfl⟩
        rw [← hwf]
        obtain ⟨hbf, hkf⟩ := boxed hb2 _ _ _ _ hwf
        have HEND := Lib.hid (((((HLV.out HF.out).base HKA.out).box hb2 hkf (.inr (Nat.le_refl _))).keep0 ((Keep.refl none_ wf).drew)))
        have y0 := hbf.drew.cell_of (i := 0) rfl
        have y1 := hbf.drew.cell_of (i := 1) rfl
        have y2 := hbf.drew.cell_of (i := 2) rfl
        have y3 := hbf.drew.cell_of (i := 3) rfl
        clear z0 z1 z2 z3 q0 q1 q2 q3 hb2 hbf hkf fr0 fr1 fr2 fr3 hwf
        go_wp2
        (try simp only [Exit.inBlock, Exit.then])
        refine bodyPost_ret (v := .tuple #[.agg (xcells D M R Q).toArray, .bool true]) ?_ rfl ⟨D, M, R, Q, rfl, ?_⟩
        · rw [results_cell_tmp rfl]
          unfold xcells
          go_simp
        · exact HEND.out
    · have i1 : ¬ (k : Int) < (n : Int) := by omega
      have hp : playS ds = runS P0 ds k := by unfold playS; rw [show min ds.length 30 = k by have := HN.out; omega]
      have HF : Hid (Two wb wr D M R Q (playS ds) (playS ds) (mid wa w4 none_)) := by rw [hp]; exact HK.out
      have hb4 := HB4.out.keep HK.out.keep (fun hm => by have := hm.2; omega)
      have q0 := hb4.cell_of (i := 0) rfl
      have q1 := hb4.cell_of (i := 1) rfl
      have q2 := hb4.cell_of (i := 2) rfl
      have q3 := hb4.cell_of (i := 3) rfl
      have hb2 := HB2.out.keep (HLV.out HF.out).keep id
      clear hp hb4
      have fr0 := hb2.frozen 0
      have fr1 := hb2.frozen 1
      have fr2 := hb2.frozen 2
      have fr3 := hb2.frozen 3
      have hsz : w.heap.size < w4.heap.size := by have h1 := HSZ.out; have : wa.heap.size = w.heap.size + 1 := by { rw [HWA.out]; simp }; omega
      have hne : w.heap.size ≠ w4.heap.size := by omega
      have hne' : w4.heap.size ≠ w.heap.size := by omega
      have z0 := hb2.cell_of (i := 0) rfl
      have z1 := hb2.cell_of (i := 1) rfl
      have z2 := hb2.cell_of (i := 2) rfl
      have z3 := hb2.cell_of (i := 3) rfl
      go_wp2_with fail
      go_region
      obtain ⟨wf, hwf⟩ : ∃ wf, wf = ((((wr.setCell ⟨w.heap.size, 0, none⟩ (.pointer (some ⟨D, 0, none⟩))).setCell ⟨w.heap.size, 1, none⟩ (.pointer (some ⟨M, 0, none⟩))).setCell ⟨w.heap.size, 2, none⟩ (.pointer (some ⟨R, 0, none⟩))).setCell ⟨w.heap.size, 3, none⟩ (.pointer (some ⟨Q, 0, none⟩))) := ⟨_, rfl⟩
      rw [← hwf]
      obtain ⟨hbf, hkf⟩ := boxed hb2 _ _ _ _ hwf
      have HEND := Lib.hid (((((HLV.out HF.out).base HKA.out).box hb2 hkf (.inr (Nat.le_refl _))).keep0 ((Keep.refl none_ wf).drew)))
      have y0 := hbf.drew.cell_of (i := 0) rfl
      have y1 := hbf.drew.cell_of (i := 1) rfl
      have y2 := hbf.drew.cell_of (i := 2) rfl
      have y3 := hbf.drew.cell_of (i := 3) rfl
      clear z0 z1 z2 z3 q0 q1 q2 q3 hb2 hbf hkf fr0 fr1 fr2 fr3 hwf
      go_wp2
      (try simp only [Exit.inBlock, Exit.then])
      refine bodyPost_ret (v := .tuple #[.agg (xcells D M R Q).toArray, .bool true]) ?_ rfl ⟨D, M, R, Q, rfl, ?_⟩
      · rw [results_cell_tmp rfl]
        unfold xcells
        go_simp
      · exact HEND.out
end Go.Proofs.Ytjlenocmfeggdaa
