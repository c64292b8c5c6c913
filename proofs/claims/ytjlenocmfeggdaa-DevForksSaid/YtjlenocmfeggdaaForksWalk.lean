/- The walk of the law DevForks. -/
import Derived.Test.YtjlenocmfeggdaaForksA
import Derived.Test.YtjlenocmfeggdaaCancelsWalk
namespace Go.Proofs.Ytjlenocmfeggdaa
open Go.RowKit
attribute [local go_sem] cell_alloc_some frozen_alloc_some
set_option maxRecDepth 100000 in
set_option maxHeartbeats 8000000 in
theorem forks_all (w : World) (v u : Value) (ds es : List Deed) (hd : Deeds w v ds) (he : Deeds w u es) :
    Calls Try.prog 9 #[v, u] w fun e w' => e = .returned (.bool true) ∧ Keep none_ w w' := by
  have H0 := Lib.hid (play_any w v ds hd)
  have HD := Lib.hid he
  obtain ⟨A, n, cap, rfl, hn, hn63⟩ : ∃ A n cap, u = .slice A n cap ∧ n = es.length ∧ n ≤ 9223372036854775807 := by
    rcases he with ⟨rfl, rfl⟩ | ⟨a, cap, rfl, hl, _⟩
    · exact ⟨none, 0, 0, rfl, rfl, by omega⟩
    · exact ⟨_, _, cap, rfl, rfl, by unfold maxLen at hl; omega⟩
  have HN := Lib.hid hn
  have hla : (playS ds).last ≤ 60 := by have h1 := run_last P0 ds (min ds.length 30); have h3 : P0.last = 0 := rfl; unfold playS; omega
  have HLA := Lib.hid hla
  generalize playS ds = S at *
  clear hd he hn hla
  go_enter Try.func9, Try.ntmps9
  go_wp2_with fail
  refine H0.out.mono ?_
  rintro e w1 ⟨D, M, R, Q, rfl, h1⟩
  obtain ⟨wb, hwb⟩ : ∃ wb, wb = w1.alloc (.cells (xcells D M R Q).toArray 29) := ⟨_, rfl⟩
  have HLV : Hid (∀ {V : World} {S1 S3 : St}, Two wb V D M R Q S1 S3 (mid w w1 none_) → Two w V D M R Q S1 S3 none_) := fun h => h.leave (by rw [hwb]; exact (Keep.refl _ w1).alloc _) h1.keep
  have HBX : Hid (∀ {V : World} {S1 S3 : St}, Two wb V D M R Q S1 S3 (mid w w1 none_) → Blk V w1.heap.size 29 (xcells D M R Q)) := fun h => by rw [hwb] at h; exact h.stay
  have H1 : Hid (Two wb wb D M R Q S S (mid w w1 none_)) := by rw [hwb]; exact h1.boxed
  have HL := Lib.hid (live_any wb)
  have HWB := Lib.hid hwb
  clear h1 H0 hwb
  unfold xcells at HBX HWB ⊢
  go_wp2_with fail
  rw [← HWB.out]
  refine HL.out.mono ?_
  rintro e w2 ⟨rfl, hk2⟩
  have H2 := Lib.hid (H1.out.keep0 hk2)
  have HC : Hid (∀ {V : World}, Keep none_ w2 V → Blk V w1.heap.size 29 (xcells D M R Q)) := fun hk => HBX.out (H2.out.keep0 hk)
  have c0 := (HBX.out H2.out).cell_of (i := 0) rfl
  have c1 := (HBX.out H2.out).cell_of (i := 1) rfl
  have c2 := (HBX.out H2.out).cell_of (i := 2) rfl
  have c3 := (HBX.out H2.out).cell_of (i := 3) rfl
  obtain ⟨iv, h0⟩ := H2.out.fk0
  have HFK := Lib.hid (h0.more ((Keep.refl none_ w2).drew))
  clear hk2 H1 HL h0
  go_wp2_with fail
  refine wp_region_X (S := fun W => Blk W w1.heap.size 29 [.pointer (some ⟨D, 0, none⟩), .pointer (some ⟨M, 0, none⟩), .pointer (some ⟨R, 0, none⟩), .pointer (some ⟨Q, 0, none⟩)]) (last := 14) (by kernel_rfl) ?_
  have hS : Blk w2.drew w1.heap.size 29 [.pointer (some ⟨D, 0, none⟩), .pointer (some ⟨M, 0, none⟩), .pointer (some ⟨R, 0, none⟩), .pointer (some ⟨Q, 0, none⟩)] := HC.out ((Keep.refl none_ w2).drew)
  refine wpAnyX_take (i := 0) (v := ?_) rfl (by kernel_rfl) (by kernel_rfl) (by kernel_rfl) (by kernel_rfl) (by decide) (fun _ _ _ h => h) hS (Or.inl ⟨by rfl, fun W hSW => ?_⟩) ?_
  rotate_left
  { have e0 := hSW.cell_of (i := 0) rfl
    have e1 := hSW.cell_of (i := 1) rfl
    have e2 := hSW.cell_of (i := 2) rfl
    have e3 := hSW.cell_of (i := 3) rfl
    go_simp
    with_reducible rfl }
  refine wpAnyX_take (i := 3) (v := ?_) rfl (by kernel_rfl) (by kernel_rfl) (by kernel_rfl) (by kernel_rfl) (by decide) (fun _ _ _ h => h) hS (Or.inl ⟨by rfl, fun W hSW => ?_⟩) ?_
  rotate_left
  { have e0 := hSW.cell_of (i := 0) rfl
    have e1 := hSW.cell_of (i := 1) rfl
    have e2 := hSW.cell_of (i := 2) rfl
    have e3 := hSW.cell_of (i := 3) rfl
    go_simp
    with_reducible rfl }
  refine wpAnyX_take (i := 6) (v := ?_) rfl (by kernel_rfl) (by kernel_rfl) (by kernel_rfl) (by kernel_rfl) (by decide) (fun _ _ _ h => h) hS (Or.inl ⟨by rfl, fun W hSW => ?_⟩) ?_
  rotate_left
  { have e0 := hSW.cell_of (i := 0) rfl
    have e1 := hSW.cell_of (i := 1) rfl
    have e2 := hSW.cell_of (i := 2) rfl
    have e3 := hSW.cell_of (i := 3) rfl
    go_simp
    with_reducible rfl }
  refine wpAnyX_take (i := 9) (v := ?_) rfl (by kernel_rfl) (by kernel_rfl) (by kernel_rfl) (by kernel_rfl) (by decide) (fun _ _ _ h => h) hS (Or.inl ⟨by rfl, fun W hSW => ?_⟩) ?_
  rotate_left
  { have e0 := hSW.cell_of (i := 0) rfl
    have e1 := hSW.cell_of (i := 1) rfl
    have e2 := hSW.cell_of (i := 2) rfl
    have e3 := hSW.cell_of (i := 3) rfl
    go_simp
    with_reducible rfl }
  refine wpAnyX_take (i := 1) (v := ?_) rfl (by kernel_rfl) (by kernel_rfl) (by kernel_rfl) (by kernel_rfl) (by decide) (fun _ _ _ h => h) hS (Or.inl ⟨by rfl, fun W hSW => ?_⟩) ?_
  rotate_left
  { have e0 := hSW.cell_of (i := 0) rfl
    have e1 := hSW.cell_of (i := 1) rfl
    have e2 := hSW.cell_of (i := 2) rfl
    have e3 := hSW.cell_of (i := 3) rfl
    go_simp
    with_reducible rfl }
  refine wpAnyX_take (i := 4) (v := ?_) rfl (by kernel_rfl) (by kernel_rfl) (by kernel_rfl) (by kernel_rfl) (by decide) (fun _ _ _ h => h) hS (Or.inl ⟨by rfl, fun W hSW => ?_⟩) ?_
  rotate_left
  { have e0 := hSW.cell_of (i := 0) rfl
    have e1 := hSW.cell_of (i := 1) rfl
    have e2 := hSW.cell_of (i := 2) rfl
    have e3 := hSW.cell_of (i := 3) rfl
    go_simp
    with_reducible rfl }
  refine wpAnyX_take (i := 7) (v := ?_) rfl (by kernel_rfl) (by kernel_rfl) (by kernel_rfl) (by kernel_rfl) (by decide) (fun _ _ _ h => h) hS (Or.inl ⟨by rfl, fun W hSW => ?_⟩) ?_
  rotate_left
  { have e0 := hSW.cell_of (i := 0) rfl
    have e1 := hSW.cell_of (i := 1) rfl
    have e2 := hSW.cell_of (i := 2) rfl
    have e3 := hSW.cell_of (i := 3) rfl
    go_simp
    with_reducible rfl }
  refine wpAnyX_take (i := 10) (v := ?_) rfl (by kernel_rfl) (by kernel_rfl) (by kernel_rfl) (by kernel_rfl) (by decide) (fun _ _ _ h => h) hS (Or.inl ⟨by rfl, fun W hSW => ?_⟩) ?_
  rotate_left
  { have e0 := hSW.cell_of (i := 0) rfl
    have e1 := hSW.cell_of (i := 1) rfl
    have e2 := hSW.cell_of (i := 2) rfl
    have e3 := hSW.cell_of (i := 3) rfl
    go_simp
    with_reducible rfl }
  have HSZD := Lib.hid (show w2.drew.heap.size = w2.heap.size from rfl)
  generalize hdr : w2.drew = wd at *
  refine wpAnyX_ready (rs := [2, 13]) (by kernel_rfl) (by simp) ?_
  refine AllX.cons rfl (fun K hK => ?_) (AllX.cons rfl (fun K hK => ?_) AllX.nil)
  · skip
    go_simp
    refine Calls.mono (by exact HFK.out.f1) ?_
    rintro e v0 ⟨D', rfl, hf1, hkk, hfk⟩
    have hs0 : wd.heap.size ≤ v0.heap.size := hkk.size
    replace HFK := Lib.hid hfk
    replace hS := hS.keep hkk id
    clear hkk hfk
    refine hK.out _ _ (.inr hS) ?_
    clear hK K
    refine wpAnyX_ready (rs := [5, 13]) (by kernel_rfl) (by simp) ?_
    refine AllX.cons rfl (fun K hK => ?_) (AllX.cons rfl (fun K hK => ?_) AllX.nil)
    · skip
      go_simp
      refine Calls.mono (by exact HFK.out.f2) ?_
      rintro e v1 ⟨M', rfl, hf2, hkk, hfk⟩
      have hs1 : v0.heap.size ≤ v1.heap.size := hkk.size
      replace HFK := Lib.hid hfk
      replace hS := hS.keep hkk id
      replace hf1 := hf1.keep hkk
      clear hkk hfk
      refine hK.out _ _ (.inr hS) ?_
      clear hK K
      refine wpAnyX_ready (rs := [8, 13]) (by kernel_rfl) (by simp) ?_
      refine AllX.cons rfl (fun K hK => ?_) (AllX.cons rfl (fun K hK => ?_) AllX.nil)
      · skip
        go_simp
        refine Calls.mono (by exact HFK.out.f3) ?_
        rintro e v2 ⟨R', rfl, hf3, hkk, hfk⟩
        have hs2 : v1.heap.size ≤ v2.heap.size := hkk.size
        replace HFK := Lib.hid hfk
        replace hS := hS.keep hkk id
        replace hf1 := hf1.keep hkk
        replace hf2 := hf2.keep hkk
        clear hkk hfk
        refine hK.out _ _ (.inr hS) ?_
        clear hK K
        refine wpAnyX_ready (rs := [11, 13]) (by kernel_rfl) (by simp) ?_
        refine AllX.cons rfl (fun K hK => ?_) (AllX.cons rfl (fun K hK => ?_) AllX.nil)
        · skip
          go_simp
          refine Calls.mono (by exact HFK.out.f4) ?_
          rintro e v3 ⟨Q', rfl, hf4, hkk, hfk⟩
          have hs3 : v2.heap.size ≤ v3.heap.size := hkk.size
          replace HFK := Lib.hid hfk
          replace hS := hS.keep hkk id
          replace hf1 := hf1.keep hkk
          replace hf2 := hf2.keep hkk
          replace hf3 := hf3.keep hkk
          clear hkk hfk
          refine hK.out _ _ (.inr hS) ?_
          clear hK K
          refine wpAnyX_take (i := 12) (v := ?_) rfl (by kernel_rfl) (by kernel_rfl) (by kernel_rfl) (by kernel_rfl) (by decide) (fun _ _ _ h => h) hS (Or.inl ⟨by rfl, fun W hSW => ?_⟩) ?_
          rotate_left
          { go_simp
            with_reducible rfl }
          refine wpAnyX_ready (rs := [13]) (by kernel_rfl) (by simp) ?_
          refine AllX.cons rfl (fun K hK => ?_) AllX.nil
          go_simp
          have hB : Blk (v3.alloc (.cells #[.pointer none, .pointer none, .pointer none, .pointer none] 29)) v3.heap.size 29 [.pointer none, .pointer none, .pointer none, .pointer none] := Blk.new v3 29 _
          have hal : Keep none_ v3 (v3.alloc (.cells #[.pointer none, .pointer none, .pointer none, .pointer none] 29)) := (Keep.refl _ v3).alloc _
          have hlb : w2.heap.size ≤ v3.heap.size := HFK.out.keep.size
          replace HFK := Lib.hid (HFK.out.more hal)
          replace hS := hS.keep hal id
          replace hf1 := hf1.keep hal
          replace hf2 := hf2.keep hal
          replace hf3 := hf3.keep hal
          replace hf4 := hf4.keep hal
          generalize hcu : v3.alloc (.cells #[.pointer none, .pointer none, .pointer none, .pointer none] 29) = va at *
          have hsa : v3.heap.size < va.heap.size := by rw [← hcu]; simp
          refine hK.out _ _ (.inr hS) ?_
          clear hK K hal hcu
          refine wpAnyX_ready (rs := [14]) (by kernel_rfl) (by simp) ?_
          refine AllX.cons rfl (fun K hK => ?_) AllX.nil
          have z0 := hB.cell_of (i := 0) rfl
          have z1 := hB.cell_of (i := 1) rfl
          have z2 := hB.cell_of (i := 2) rfl
          have z3 := hB.cell_of (i := 3) rfl
          have y0 := hB.frozen 0
          have y1 := hB.frozen 1
          have y2 := hB.frozen 2
          have y3 := hB.frozen 3
          go_simp
          refine hK.out _ _ (.inl rfl) ?_
          clear hK K
          refine wpAnyX_done (by kernel_rfl) ?_ _
          have hszd := HSZD.out
          have hnew : Two w2 va D' M' R' Q' S S none_ := HFK.out.two hf1 hf2 hf3 hf4 (by omega) (by omega) (by omega) (by omega) (by omega)
          have hge : w2.heap.size ≤ v3.heap.size := by omega
          clear hszd HFK hf1 hf2 hf3 hf4 hS z0 z1 z2 z3 y0 y1 y2 y3 hs0 hs1 hs2 hs3 hsa
          clear HSZD
          generalize v3.heap.size = B at *
          obtain ⟨vf, hvf⟩ : ∃ vf, vf = ((((va.setCell ⟨B, 0, none⟩ (.pointer (some ⟨D', 0, none⟩))).setCell ⟨B, 1, none⟩ (.pointer (some ⟨M', 0, none⟩))).setCell ⟨B, 2, none⟩ (.pointer (some ⟨R', 0, none⟩))).setCell ⟨B, 3, none⟩ (.pointer (some ⟨Q', 0, none⟩))) := ⟨_, rfl⟩
          rw [← hvf]
          obtain ⟨hBf, hkf⟩ := boxed hB _ _ _ _ hvf
          have hT := hnew.box hB hkf (.inr hge)
          have HST : Hid (Two vf vf D' M' R' Q' (runS S es 0) (runS S es 0) (fun b => mid w2 vf none_ b ∧ b ≠ B)) := hT.beside hBf
          have HLW : Hid (∀ {V : World} {S1 S3 : St}, Two vf V D' M' R' Q' S1 S3 (fun b => mid w2 vf none_ b ∧ b ≠ B) → Two w2 V D' M' R' Q' S1 S3 none_) := fun h => (h.mono (fun b hb => hb.1)).leave (Keep.refl _ vf) hT.keep
          have HBB : Hid (∀ {V : World} {S1 S3 : St}, Two vf V D' M' R' Q' S1 S3 (fun b => mid w2 vf none_ b ∧ b ≠ B) → Blk V B 29 [.pointer (some ⟨D', 0, none⟩), .pointer (some ⟨M', 0, none⟩), .pointer (some ⟨R', 0, none⟩), .pointer (some ⟨Q', 0, none⟩)]) := fun h => hBf.keep h.keep (fun hm => hm.2 rfl)
          have HVF : Hid (Keep none_ w2 vf) := hT.keep
          clear hvf hkf hBf hT hnew hge hB
          skip
          go_wp2_with fail
          go_loopw [8] (fun x wr => ∃ k : Nat, k ≤ n ∧ k ≤ 12 ∧ x = .int .i64 k ∧ Hid (Two vf wr D' M' R' Q' (runS S es k) (runS S es k) (fun b => mid w2 vf none_ b ∧ b ≠ B))) (fun x _ => 12 - (intOf x).toNat)
          case atStart => exact ⟨0, by omega, by omega, rfl, HST⟩
          case round =>
            obtain ⟨k, hk, hk50, rfl, HK⟩ := hrel
            have hle : (runS S es k).last ≤ 1000 := by have h1 := run_last S es k; have h3 := HLA.out; omega
            by_cases hkn : k < n ∧ k < 12
            · have i0 : (0 : Int) ≤ (k : Int) := by omega
              have i1 : (k : Int) < (n : Int) := by omega
              have i2 : (k : Int) < 12 := by omega
              have hk2 := (HLW.out HK.out).keep
              have hw2 : Keep none_ w w2 := (HLV.out H2.out).keep
              have hwf : Keep none_ w vf := hw2.trans HVF.out
              have hds := HD.out.keep (hw2.trans hk2)
              obtain ⟨d, hdk⟩ : ∃ d, es[k]? = some d := ⟨_, List.getElem?_eq_getElem (by have := HN.out; omega)⟩
              rcases HD.out with ⟨h0, _⟩ | ⟨a, cap', he, _, hcw, hby⟩
              · rw [h0] at hdk; simp at hdk
              rcases hds with ⟨h0, _⟩ | ⟨a', cap'', he', _, hc, _⟩
              · rw [h0] at hdk; simp at hdk
              injection he with e1 e2 e3
              injection he' with e1' e2' e3'
              subst e1
              injection e1' with e1'
              subst e1'
              have hbd := hby d (List.mem_of_getElem? hdk)
              obtain ⟨c0, c1, c2, c3, c4, c5, c6, c7⟩ := deed_cells (hc k d hdk)
              have hrun : doS (runS S es k) d = runS S es (k + 1) := by show _ = doS (runS S es k) (es.getD k _); rw [List.getD_eq_getElem?_getD, hdk]; rfl
              have hbG : ∀ ad n c, d.bv = .slice (some ad) n c → 0 < n → ¬ (mid w2 vf none_ ad.block ∧ ad.block ≠ B) := fun ad n c e hn hm => by
                have h1 := hbd.2 ad n c e hn
                have h2 := hw2.size
                rcases hm.1.1 with h | h
                · exact h
                · omega
              have hdo : ∀ V, Two vf V D' M' R' Q' (runS S es k) (runS S es k) (fun b => mid w2 vf none_ b ∧ b ≠ B) → Calls Try.prog 34 #[.agg (xcells D' M' R' Q').toArray, .agg (dcells d).toArray] V fun e w' => e = .returned (.bool true) ∧ Two vf w' D' M' R' Q' (runS S es (k + 1)) (runS S es (k + 1)) (fun b => mid w2 vf none_ b ∧ b ≠ B) := fun V h => by
                have := do_any h hle d (hbd.1.keep0 hwf) hbG
                rw [hrun] at this
                exact this
              replace hdo := Lib.hid hdo
              have hb4 := HBB.out HK.out
              have HD4 := Lib.hid (HK.out.keep0 ((Keep.refl none_ wr).drew))
              have q0 := hb4.cell_of (i := 0) rfl
              have q1 := hb4.cell_of (i := 1) rfl
              have q2 := hb4.cell_of (i := 2) rfl
              have q3 := hb4.cell_of (i := 3) rfl
              have HCE : Hid (∀ {V : World} {S1 S3 : St}, Two vf V D' M' R' Q' S1 S3 (fun b => mid w2 vf none_ b ∧ b ≠ B) → (V.cell? ⟨B, 0, none⟩ = some (.pointer (some ⟨D', 0, none⟩)) ∧ V.cell? ⟨B, 1, none⟩ = some (.pointer (some ⟨M', 0, none⟩)) ∧ V.cell? ⟨B, 2, none⟩ = some (.pointer (some ⟨R', 0, none⟩)) ∧ V.cell? ⟨B, 3, none⟩ = some (.pointer (some ⟨Q', 0, none⟩))) ∧ V.cell? (a.add (k * 8)) = some (.int .i64 d.op) ∧ V.cell? ⟨(a.add (k * 8)).block, (a.add (k * 8)).off + 1, none⟩ = some (.int .i64 d.i) ∧ V.cell? ⟨(a.add (k * 8)).block, (a.add (k * 8)).off + 2, none⟩ = some (.int .u32 d.r.id) ∧
                  V.cell? ⟨(a.add (k * 8)).block, (a.add (k * 8)).off + 3, none⟩ = some (.bool d.r.wr) ∧ V.cell? ⟨(a.add (k * 8)).block, (a.add (k * 8)).off + 4, none⟩ = some (.int .i64 d.r.sec) ∧
                  V.cell? ⟨(a.add (k * 8)).block, (a.add (k * 8)).off + 5, none⟩ = some (.int .i64 d.r.fr) ∧ V.cell? ⟨(a.add (k * 8)).block, (a.add (k * 8)).off + 6, none⟩ = some (.int .u8 d.r.own) ∧ V.cell? ⟨(a.add (k * 8)).block, (a.add (k * 8)).off + 7, none⟩ = some d.bv) := fun {V S1 S3} h => by
                have hb := HBB.out h
                have hkk : Keep none_ w V := hw2.trans (HLW.out h).keep
                refine ⟨⟨hb.cell_of (i := 0) rfl, hb.cell_of (i := 1) rfl, hb.cell_of (i := 2) rfl, hb.cell_of (i := 3) rfl⟩, deed_cells fun j u hu => ?_⟩
                have h1 := hcw k d hdk j u hu
                exact (hkk.cell (World.block_lt_of_cell? w _ h1) id).trans h1
              obtain ⟨op, ix, ⟨rid, rwr, rsec, rfr, rown⟩, bb, bv⟩ := d
              simp only at c0 c1 c2 c3 c4 c5 c6 c7 HCE
              clear hcw hc e2 e3 e2' e3' hdk hrun hle hb4 hwf hbG hbd hby hk2 hw2
              unfold dcells xcells at hdo
              simp only at hdo
              go_wp2_with fail
              go_region_held3 (fun X => X.cell? ⟨B, 0, none⟩ = some (.pointer (some ⟨D', 0, none⟩)) ∧ X.cell? ⟨B, 1, none⟩ = some (.pointer (some ⟨M', 0, none⟩)) ∧ X.cell? ⟨B, 2, none⟩ = some (.pointer (some ⟨R', 0, none⟩)) ∧ X.cell? ⟨B, 3, none⟩ = some (.pointer (some ⟨Q', 0, none⟩)) ∧ X.cell? (a.add (k * 8)) = some (.int .i64 op) ∧ X.cell? ⟨(a.add (k * 8)).block, (a.add (k * 8)).off + 1, none⟩ = some (.int .i64 ix) ∧ X.cell? ⟨(a.add (k * 8)).block, (a.add (k * 8)).off + 2, none⟩ = some (.int .u32 rid) ∧ X.cell? ⟨(a.add (k * 8)).block, (a.add (k * 8)).off + 3, none⟩ = some (.bool rwr) ∧ X.cell? ⟨(a.add (k * 8)).block, (a.add (k * 8)).off + 4, none⟩ = some (.int .i64 rsec) ∧ X.cell? ⟨(a.add (k * 8)).block, (a.add (k * 8)).off + 5, none⟩ = some (.int .i64 rfr) ∧ X.cell? ⟨(a.add (k * 8)).block, (a.add (k * 8)).off + 6, none⟩ = some (.int .u8 rown) ∧ X.cell? ⟨(a.add (k * 8)).block, (a.add (k * 8)).off + 7, none⟩ = some bv)
                (first | exact ⟨q0, q1, q2, q3, c0, c1, c2, c3, c4, c5, c6, c7⟩ | exact ⟨r0, r1, r2, r3, x0, x1, x2, x3, x4, x5, x6, x7⟩ | go_keep)
                (first | (go_at_call 34; refine Calls.mono (by exact hdo.out _ HD4.out) ?_; rintro e w5 ⟨rfl, ht⟩; obtain ⟨⟨r0, r1, r2, r3⟩, x0, x1, x2, x3, x4, x5, x6, x7⟩ := HCE.out ht; have HT := Lib.hid ht; clear ht))
              go_wp2
              go_roundw
              case rel => exact ⟨k + 1, by omega, by omega, by go_num, HT⟩
              case measure => simp [intOf]; omega
            · have HQA : Hid (Keep none_ w2 wr) := (HLW.out HK.out).keep
              have hca := HC.out HQA.out
              have q0 := hca.cell_of (i := 0) rfl
              have q1 := hca.cell_of (i := 1) rfl
              have q2 := hca.cell_of (i := 2) rfl
              have q3 := hca.cell_of (i := 3) rfl
              have hsm := same_all (H2.out.keep0 HQA.out)
              unfold xcells at hsm
              have HS1 := Lib.hid hsm
              clear hsm hca
              have key : ¬ (k : Int) < (n : Int) ∨ ((k : Int) < (n : Int) ∧ ¬ (k : Int) < 12) := by omega
              rcases key with i1 | ⟨i1, i2⟩
              all_goals
                go_wp2_with fail
                refine HS1.out.mono ?_
                rintro e w5 ⟨rfl, hk5⟩
                have hK5 := HK.out.keep0 hk5
                have hcb := HBB.out hK5
                have r0 := hcb.cell_of (i := 0) rfl
                have r1 := hcb.cell_of (i := 1) rfl
                have r2 := hcb.cell_of (i := 2) rfl
                have r3 := hcb.cell_of (i := 3) rfl
                have hsm := same_all hK5
                unfold xcells at hsm
                have HS2 := Lib.hid hsm
                have HKK := Lib.hid (((HLV.out H2.out).keep.trans HQA.out).trans hk5)
                clear hsm hcb hK5 hk5
                go_wp2_with fail
                refine HS2.out.mono ?_
                rintro e w6 ⟨rfl, hk6⟩
                have HK6 := Lib.hid (HKK.out.trans hk6)
                clear hk6
                go_wp2
                go_ret
                exact ⟨rfl, HK6.out⟩
        · skip
          go_simp
          have hB : Blk (v2.alloc (.cells #[.pointer none, .pointer none, .pointer none, .pointer none] 29)) v2.heap.size 29 [.pointer none, .pointer none, .pointer none, .pointer none] := Blk.new v2 29 _
          have hal : Keep none_ v2 (v2.alloc (.cells #[.pointer none, .pointer none, .pointer none, .pointer none] 29)) := (Keep.refl _ v2).alloc _
          have hlb : w2.heap.size ≤ v2.heap.size := HFK.out.keep.size
          replace HFK := Lib.hid (HFK.out.more hal)
          replace hS := hS.keep hal id
          replace hf1 := hf1.keep hal
          replace hf2 := hf2.keep hal
          replace hf3 := hf3.keep hal
          generalize hcu : v2.alloc (.cells #[.pointer none, .pointer none, .pointer none, .pointer none] 29) = va at *
          have hsa : v2.heap.size < va.heap.size := by rw [← hcu]; simp
          refine hK.out _ _ (.inr hS) ?_
          clear hK K hal hcu
          refine wpAnyX_ready (rs := [11]) (by kernel_rfl) (by simp) ?_
          refine AllX.cons rfl (fun K hK => ?_) AllX.nil
          go_simp
          refine Calls.mono (by exact HFK.out.f4) ?_
          rintro e v3 ⟨Q', rfl, hf4, hkk, hfk⟩
          have hs3 : va.heap.size ≤ v3.heap.size := hkk.size
          replace HFK := Lib.hid hfk
          replace hS := hS.keep hkk id
          replace hf1 := hf1.keep hkk
          replace hf2 := hf2.keep hkk
          replace hf3 := hf3.keep hkk
          replace hB := hB.keep hkk id
          clear hkk hfk
          refine hK.out _ _ (.inr hS) ?_
          clear hK K
          refine wpAnyX_take (i := 12) (v := ?_) rfl (by kernel_rfl) (by kernel_rfl) (by kernel_rfl) (by kernel_rfl) (by decide) (fun _ _ _ h => h) hS (Or.inl ⟨by rfl, fun W hSW => ?_⟩) ?_
          rotate_left
          { go_simp
            with_reducible rfl }
          refine wpAnyX_ready (rs := [14]) (by kernel_rfl) (by simp) ?_
          refine AllX.cons rfl (fun K hK => ?_) AllX.nil
          have z0 := hB.cell_of (i := 0) rfl
          have z1 := hB.cell_of (i := 1) rfl
          have z2 := hB.cell_of (i := 2) rfl
          have z3 := hB.cell_of (i := 3) rfl
          have y0 := hB.frozen 0
          have y1 := hB.frozen 1
          have y2 := hB.frozen 2
          have y3 := hB.frozen 3
          go_simp
          refine hK.out _ _ (.inl rfl) ?_
          clear hK K
          refine wpAnyX_done (by kernel_rfl) ?_ _
          have hszd := HSZD.out
          have hnew : Two w2 v3 D' M' R' Q' S S none_ := HFK.out.two hf1 hf2 hf3 hf4 (by omega) (by omega) (by omega) (by omega) (by omega)
          have hge : w2.heap.size ≤ v2.heap.size := by omega
          clear hszd HFK hf1 hf2 hf3 hf4 hS z0 z1 z2 z3 y0 y1 y2 y3 hs0 hs1 hs2 hs3 hsa
          clear HSZD
          generalize v2.heap.size = B at *
          obtain ⟨vf, hvf⟩ : ∃ vf, vf = ((((v3.setCell ⟨B, 0, none⟩ (.pointer (some ⟨D', 0, none⟩))).setCell ⟨B, 1, none⟩ (.pointer (some ⟨M', 0, none⟩))).setCell ⟨B, 2, none⟩ (.pointer (some ⟨R', 0, none⟩))).setCell ⟨B, 3, none⟩ (.pointer (some ⟨Q', 0, none⟩))) := ⟨_, rfl⟩
          rw [← hvf]
          obtain ⟨hBf, hkf⟩ := boxed hB _ _ _ _ hvf
          have hT := hnew.box hB hkf (.inr hge)
          have HST : Hid (Two vf vf D' M' R' Q' (runS S es 0) (runS S es 0) (fun b => mid w2 vf none_ b ∧ b ≠ B)) := hT.beside hBf
          have HLW : Hid (∀ {V : World} {S1 S3 : St}, Two vf V D' M' R' Q' S1 S3 (fun b => mid w2 vf none_ b ∧ b ≠ B) → Two w2 V D' M' R' Q' S1 S3 none_) := fun h => (h.mono (fun b hb => hb.1)).leave (Keep.refl _ vf) hT.keep
          have HBB : Hid (∀ {V : World} {S1 S3 : St}, Two vf V D' M' R' Q' S1 S3 (fun b => mid w2 vf none_ b ∧ b ≠ B) → Blk V B 29 [.pointer (some ⟨D', 0, none⟩), .pointer (some ⟨M', 0, none⟩), .pointer (some ⟨R', 0, none⟩), .pointer (some ⟨Q', 0, none⟩)]) := fun h => hBf.keep h.keep (fun hm => hm.2 rfl)
          have HVF : Hid (Keep none_ w2 vf) := hT.keep
          clear hvf hkf hBf hT hnew hge hB
          skip
          go_wp2_with fail
          go_loopw [8] (fun x wr => ∃ k : Nat, k ≤ n ∧ k ≤ 12 ∧ x = .int .i64 k ∧ Hid (Two vf wr D' M' R' Q' (runS S es k) (runS S es k) (fun b => mid w2 vf none_ b ∧ b ≠ B))) (fun x _ => 12 - (intOf x).toNat)
          case atStart => exact ⟨0, by omega, by omega, rfl, HST⟩
          case round =>
            obtain ⟨k, hk, hk50, rfl, HK⟩ := hrel
            have hle : (runS S es k).last ≤ 1000 := by have h1 := run_last S es k; have h3 := HLA.out; omega
            by_cases hkn : k < n ∧ k < 12
            · have i0 : (0 : Int) ≤ (k : Int) := by omega
              have i1 : (k : Int) < (n : Int) := by omega
              have i2 : (k : Int) < 12 := by omega
              have hk2 := (HLW.out HK.out).keep
              have hw2 : Keep none_ w w2 := (HLV.out H2.out).keep
              have hwf : Keep none_ w vf := hw2.trans HVF.out
              have hds := HD.out.keep (hw2.trans hk2)
              obtain ⟨d, hdk⟩ : ∃ d, es[k]? = some d := ⟨_, List.getElem?_eq_getElem (by have := HN.out; omega)⟩
              rcases HD.out with ⟨h0, _⟩ | ⟨a, cap', he, _, hcw, hby⟩
              · rw [h0] at hdk; simp at hdk
              rcases hds with ⟨h0, _⟩ | ⟨a', cap'', he', _, hc, _⟩
              · rw [h0] at hdk; simp at hdk
              injection he with e1 e2 e3
              injection he' with e1' e2' e3'
              subst e1
              injection e1' with e1'
              subst e1'
              have hbd := hby d (List.mem_of_getElem? hdk)
              obtain ⟨c0, c1, c2, c3, c4, c5, c6, c7⟩ := deed_cells (hc k d hdk)
              have hrun : doS (runS S es k) d = runS S es (k + 1) := by show _ = doS (runS S es k) (es.getD k _); rw [List.getD_eq_getElem?_getD, hdk]; rfl
              have hbG : ∀ ad n c, d.bv = .slice (some ad) n c → 0 < n → ¬ (mid w2 vf none_ ad.block ∧ ad.block ≠ B) := fun ad n c e hn hm => by
                have h1 := hbd.2 ad n c e hn
                have h2 := hw2.size
                rcases hm.1.1 with h | h
                · exact h
                · omega
              have hdo : ∀ V, Two vf V D' M' R' Q' (runS S es k) (runS S es k) (fun b => mid w2 vf none_ b ∧ b ≠ B) → Calls Try.prog 34 #[.agg (xcells D' M' R' Q').toArray, .agg (dcells d).toArray] V fun e w' => e = .returned (.bool true) ∧ Two vf w' D' M' R' Q' (runS S es (k + 1)) (runS S es (k + 1)) (fun b => mid w2 vf none_ b ∧ b ≠ B) := fun V h => by
                have := do_any h hle d (hbd.1.keep0 hwf) hbG
                rw [hrun] at this
                exact this
              replace hdo := Lib.hid hdo
              have hb4 := HBB.out HK.out
              have HD4 := Lib.hid (HK.out.keep0 ((Keep.refl none_ wr).drew))
              have q0 := hb4.cell_of (i := 0) rfl
              have q1 := hb4.cell_of (i := 1) rfl
              have q2 := hb4.cell_of (i := 2) rfl
              have q3 := hb4.cell_of (i := 3) rfl
              have HCE : Hid (∀ {V : World} {S1 S3 : St}, Two vf V D' M' R' Q' S1 S3 (fun b => mid w2 vf none_ b ∧ b ≠ B) → (V.cell? ⟨B, 0, none⟩ = some (.pointer (some ⟨D', 0, none⟩)) ∧ V.cell? ⟨B, 1, none⟩ = some (.pointer (some ⟨M', 0, none⟩)) ∧ V.cell? ⟨B, 2, none⟩ = some (.pointer (some ⟨R', 0, none⟩)) ∧ V.cell? ⟨B, 3, none⟩ = some (.pointer (some ⟨Q', 0, none⟩))) ∧ V.cell? (a.add (k * 8)) = some (.int .i64 d.op) ∧ V.cell? ⟨(a.add (k * 8)).block, (a.add (k * 8)).off + 1, none⟩ = some (.int .i64 d.i) ∧ V.cell? ⟨(a.add (k * 8)).block, (a.add (k * 8)).off + 2, none⟩ = some (.int .u32 d.r.id) ∧
                  V.cell? ⟨(a.add (k * 8)).block, (a.add (k * 8)).off + 3, none⟩ = some (.bool d.r.wr) ∧ V.cell? ⟨(a.add (k * 8)).block, (a.add (k * 8)).off + 4, none⟩ = some (.int .i64 d.r.sec) ∧
                  V.cell? ⟨(a.add (k * 8)).block, (a.add (k * 8)).off + 5, none⟩ = some (.int .i64 d.r.fr) ∧ V.cell? ⟨(a.add (k * 8)).block, (a.add (k * 8)).off + 6, none⟩ = some (.int .u8 d.r.own) ∧ V.cell? ⟨(a.add (k * 8)).block, (a.add (k * 8)).off + 7, none⟩ = some d.bv) := fun {V S1 S3} h => by
                have hb := HBB.out h
                have hkk : Keep none_ w V := hw2.trans (HLW.out h).keep
                refine ⟨⟨hb.cell_of (i := 0) rfl, hb.cell_of (i := 1) rfl, hb.cell_of (i := 2) rfl, hb.cell_of (i := 3) rfl⟩, deed_cells fun j u hu => ?_⟩
                have h1 := hcw k d hdk j u hu
                exact (hkk.cell (World.block_lt_of_cell? w _ h1) id).trans h1
              obtain ⟨op, ix, ⟨rid, rwr, rsec, rfr, rown⟩, bb, bv⟩ := d
              simp only at c0 c1 c2 c3 c4 c5 c6 c7 HCE
              clear hcw hc e2 e3 e2' e3' hdk hrun hle hb4 hwf hbG hbd hby hk2 hw2
              unfold dcells xcells at hdo
              simp only at hdo
              go_wp2_with fail
              go_region_held3 (fun X => X.cell? ⟨B, 0, none⟩ = some (.pointer (some ⟨D', 0, none⟩)) ∧ X.cell? ⟨B, 1, none⟩ = some (.pointer (some ⟨M', 0, none⟩)) ∧ X.cell? ⟨B, 2, none⟩ = some (.pointer (some ⟨R', 0, none⟩)) ∧ X.cell? ⟨B, 3, none⟩ = some (.pointer (some ⟨Q', 0, none⟩)) ∧ X.cell? (a.add (k * 8)) = some (.int .i64 op) ∧ X.cell? ⟨(a.add (k * 8)).block, (a.add (k * 8)).off + 1, none⟩ = some (.int .i64 ix) ∧ X.cell? ⟨(a.add (k * 8)).block, (a.add (k * 8)).off + 2, none⟩ = some (.int .u32 rid) ∧ X.cell? ⟨(a.add (k * 8)).block, (a.add (k * 8)).off + 3, none⟩ = some (.bool rwr) ∧ X.cell? ⟨(a.add (k * 8)).block, (a.add (k * 8)).off + 4, none⟩ = some (.int .i64 rsec) ∧ X.cell? ⟨(a.add (k * 8)).block, (a.add (k * 8)).off + 5, none⟩ = some (.int .i64 rfr) ∧ X.cell? ⟨(a.add (k * 8)).block, (a.add (k * 8)).off + 6, none⟩ = some (.int .u8 rown) ∧ X.cell? ⟨(a.add (k * 8)).block, (a.add (k * 8)).off + 7, none⟩ = some bv)
                (first | exact ⟨q0, q1, q2, q3, c0, c1, c2, c3, c4, c5, c6, c7⟩ | exact ⟨r0, r1, r2, r3, x0, x1, x2, x3, x4, x5, x6, x7⟩ | go_keep)
                (first | (go_at_call 34; refine Calls.mono (by exact hdo.out _ HD4.out) ?_; rintro e w5 ⟨rfl, ht⟩; obtain ⟨⟨r0, r1, r2, r3⟩, x0, x1, x2, x3, x4, x5, x6, x7⟩ := HCE.out ht; have HT := Lib.hid ht; clear ht))
              go_wp2
              go_roundw
              case rel => exact ⟨k + 1, by omega, by omega, by go_num, HT⟩
              case measure => simp [intOf]; omega
            · have HQA : Hid (Keep none_ w2 wr) := (HLW.out HK.out).keep
              have hca := HC.out HQA.out
              have q0 := hca.cell_of (i := 0) rfl
              have q1 := hca.cell_of (i := 1) rfl
              have q2 := hca.cell_of (i := 2) rfl
              have q3 := hca.cell_of (i := 3) rfl
              have hsm := same_all (H2.out.keep0 HQA.out)
              unfold xcells at hsm
              have HS1 := Lib.hid hsm
              clear hsm hca
              have key : ¬ (k : Int) < (n : Int) ∨ ((k : Int) < (n : Int) ∧ ¬ (k : Int) < 12) := by omega
              rcases key with i1 | ⟨i1, i2⟩
              all_goals
                go_wp2_with fail
                refine HS1.out.mono ?_
                rintro e w5 ⟨rfl, hk5⟩
                have hK5 := HK.out.keep0 hk5
                have hcb := HBB.out hK5
                have r0 := hcb.cell_of (i := 0) rfl
                have r1 := hcb.cell_of (i := 1) rfl
                have r2 := hcb.cell_of (i := 2) rfl
                have r3 := hcb.cell_of (i := 3) rfl
                have hsm := same_all hK5
                unfold xcells at hsm
                have HS2 := Lib.hid hsm
                have HKK := Lib.hid (((HLV.out H2.out).keep.trans HQA.out).trans hk5)
                clear hsm hcb hK5 hk5
                go_wp2_with fail
                refine HS2.out.mono ?_
                rintro e w6 ⟨rfl, hk6⟩
                have HK6 := Lib.hid (HKK.out.trans hk6)
                clear hk6
                go_wp2
                go_ret
                exact ⟨rfl, HK6.out⟩
      · skip
        go_simp
        have hB : Blk (v1.alloc (.cells #[.pointer none, .pointer none, .pointer none, .pointer none] 29)) v1.heap.size 29 [.pointer none, .pointer none, .pointer none, .pointer none] := Blk.new v1 29 _
        have hal : Keep none_ v1 (v1.alloc (.cells #[.pointer none, .pointer none, .pointer none, .pointer none] 29)) := (Keep.refl _ v1).alloc _
        have hlb : w2.heap.size ≤ v1.heap.size := HFK.out.keep.size
        replace HFK := Lib.hid (HFK.out.more hal)
        replace hS := hS.keep hal id
        replace hf1 := hf1.keep hal
        replace hf2 := hf2.keep hal
        generalize hcu : v1.alloc (.cells #[.pointer none, .pointer none, .pointer none, .pointer none] 29) = va at *
        have hsa : v1.heap.size < va.heap.size := by rw [← hcu]; simp
        refine hK.out _ _ (.inr hS) ?_
        clear hK K hal hcu
        refine wpAnyX_ready (rs := [8]) (by kernel_rfl) (by simp) ?_
        refine AllX.cons rfl (fun K hK => ?_) AllX.nil
        go_simp
        refine Calls.mono (by exact HFK.out.f3) ?_
        rintro e v2 ⟨R', rfl, hf3, hkk, hfk⟩
        have hs2 : va.heap.size ≤ v2.heap.size := hkk.size
        replace HFK := Lib.hid hfk
        replace hS := hS.keep hkk id
        replace hf1 := hf1.keep hkk
        replace hf2 := hf2.keep hkk
        replace hB := hB.keep hkk id
        clear hkk hfk
        refine hK.out _ _ (.inr hS) ?_
        clear hK K
        refine wpAnyX_ready (rs := [11]) (by kernel_rfl) (by simp) ?_
        refine AllX.cons rfl (fun K hK => ?_) AllX.nil
        go_simp
        refine Calls.mono (by exact HFK.out.f4) ?_
        rintro e v3 ⟨Q', rfl, hf4, hkk, hfk⟩
        have hs3 : v2.heap.size ≤ v3.heap.size := hkk.size
        replace HFK := Lib.hid hfk
        replace hS := hS.keep hkk id
        replace hf1 := hf1.keep hkk
        replace hf2 := hf2.keep hkk
        replace hf3 := hf3.keep hkk
        replace hB := hB.keep hkk id
        clear hkk hfk
        refine hK.out _ _ (.inr hS) ?_
        clear hK K
        refine wpAnyX_take (i := 12) (v := ?_) rfl (by kernel_rfl) (by kernel_rfl) (by kernel_rfl) (by kernel_rfl) (by decide) (fun _ _ _ h => h) hS (Or.inl ⟨by rfl, fun W hSW => ?_⟩) ?_
        rotate_left
        { go_simp
          with_reducible rfl }
        refine wpAnyX_ready (rs := [14]) (by kernel_rfl) (by simp) ?_
        refine AllX.cons rfl (fun K hK => ?_) AllX.nil
        have z0 := hB.cell_of (i := 0) rfl
        have z1 := hB.cell_of (i := 1) rfl
        have z2 := hB.cell_of (i := 2) rfl
        have z3 := hB.cell_of (i := 3) rfl
        have y0 := hB.frozen 0
        have y1 := hB.frozen 1
        have y2 := hB.frozen 2
        have y3 := hB.frozen 3
        go_simp
        refine hK.out _ _ (.inl rfl) ?_
        clear hK K
        refine wpAnyX_done (by kernel_rfl) ?_ _
        have hszd := HSZD.out
        have hnew : Two w2 v3 D' M' R' Q' S S none_ := HFK.out.two hf1 hf2 hf3 hf4 (by omega) (by omega) (by omega) (by omega) (by omega)
        have hge : w2.heap.size ≤ v1.heap.size := by omega
        clear hszd HFK hf1 hf2 hf3 hf4 hS z0 z1 z2 z3 y0 y1 y2 y3 hs0 hs1 hs2 hs3 hsa
        clear HSZD
        generalize v1.heap.size = B at *
        obtain ⟨vf, hvf⟩ : ∃ vf, vf = ((((v3.setCell ⟨B, 0, none⟩ (.pointer (some ⟨D', 0, none⟩))).setCell ⟨B, 1, none⟩ (.pointer (some ⟨M', 0, none⟩))).setCell ⟨B, 2, none⟩ (.pointer (some ⟨R', 0, none⟩))).setCell ⟨B, 3, none⟩ (.pointer (some ⟨Q', 0, none⟩))) := ⟨_, rfl⟩
        rw [← hvf]
        obtain ⟨hBf, hkf⟩ := boxed hB _ _ _ _ hvf
        have hT := hnew.box hB hkf (.inr hge)
        have HST : Hid (Two vf vf D' M' R' Q' (runS S es 0) (runS S es 0) (fun b => mid w2 vf none_ b ∧ b ≠ B)) := hT.beside hBf
        have HLW : Hid (∀ {V : World} {S1 S3 : St}, Two vf V D' M' R' Q' S1 S3 (fun b => mid w2 vf none_ b ∧ b ≠ B) → Two w2 V D' M' R' Q' S1 S3 none_) := fun h => (h.mono (fun b hb => hb.1)).leave (Keep.refl _ vf) hT.keep
        have HBB : Hid (∀ {V : World} {S1 S3 : St}, Two vf V D' M' R' Q' S1 S3 (fun b => mid w2 vf none_ b ∧ b ≠ B) → Blk V B 29 [.pointer (some ⟨D', 0, none⟩), .pointer (some ⟨M', 0, none⟩), .pointer (some ⟨R', 0, none⟩), .pointer (some ⟨Q', 0, none⟩)]) := fun h => hBf.keep h.keep (fun hm => hm.2 rfl)
        have HVF : Hid (Keep none_ w2 vf) := hT.keep
        clear hvf hkf hBf hT hnew hge hB
        skip
        go_wp2_with fail
        go_loopw [8] (fun x wr => ∃ k : Nat, k ≤ n ∧ k ≤ 12 ∧ x = .int .i64 k ∧ Hid (Two vf wr D' M' R' Q' (runS S es k) (runS S es k) (fun b => mid w2 vf none_ b ∧ b ≠ B))) (fun x _ => 12 - (intOf x).toNat)
        case atStart => exact ⟨0, by omega, by omega, rfl, HST⟩
        case round =>
          obtain ⟨k, hk, hk50, rfl, HK⟩ := hrel
          have hle : (runS S es k).last ≤ 1000 := by have h1 := run_last S es k; have h3 := HLA.out; omega
          by_cases hkn : k < n ∧ k < 12
          · have i0 : (0 : Int) ≤ (k : Int) := by omega
            have i1 : (k : Int) < (n : Int) := by omega
            have i2 : (k : Int) < 12 := by omega
            have hk2 := (HLW.out HK.out).keep
            have hw2 : Keep none_ w w2 := (HLV.out H2.out).keep
            have hwf : Keep none_ w vf := hw2.trans HVF.out
            have hds := HD.out.keep (hw2.trans hk2)
            obtain ⟨d, hdk⟩ : ∃ d, es[k]? = some d := ⟨_, List.getElem?_eq_getElem (by have := HN.out; omega)⟩
            rcases HD.out with ⟨h0, _⟩ | ⟨a, cap', he, _, hcw, hby⟩
            · rw [h0] at hdk; simp at hdk
            rcases hds with ⟨h0, _⟩ | ⟨a', cap'', he', _, hc, _⟩
            · rw [h0] at hdk; simp at hdk
            injection he with e1 e2 e3
            injection he' with e1' e2' e3'
            subst e1
            injection e1' with e1'
            subst e1'
            have hbd := hby d (List.mem_of_getElem? hdk)
            obtain ⟨c0, c1, c2, c3, c4, c5, c6, c7⟩ := deed_cells (hc k d hdk)
            have hrun : doS (runS S es k) d = runS S es (k + 1) := by show _ = doS (runS S es k) (es.getD k _); rw [List.getD_eq_getElem?_getD, hdk]; rfl
            have hbG : ∀ ad n c, d.bv = .slice (some ad) n c → 0 < n → ¬ (mid w2 vf none_ ad.block ∧ ad.block ≠ B) := fun ad n c e hn hm => by
              have h1 := hbd.2 ad n c e hn
              have h2 := hw2.size
              rcases hm.1.1 with h | h
              · exact h
              · omega
            have hdo : ∀ V, Two vf V D' M' R' Q' (runS S es k) (runS S es k) (fun b => mid w2 vf none_ b ∧ b ≠ B) → Calls Try.prog 34 #[.agg (xcells D' M' R' Q').toArray, .agg (dcells d).toArray] V fun e w' => e = .returned (.bool true) ∧ Two vf w' D' M' R' Q' (runS S es (k + 1)) (runS S es (k + 1)) (fun b => mid w2 vf none_ b ∧ b ≠ B) := fun V h => by
              have := do_any h hle d (hbd.1.keep0 hwf) hbG
              rw [hrun] at this
              exact this
            replace hdo := Lib.hid hdo
            have hb4 := HBB.out HK.out
            have HD4 := Lib.hid (HK.out.keep0 ((Keep.refl none_ wr).drew))
            have q0 := hb4.cell_of (i := 0) rfl
            have q1 := hb4.cell_of (i := 1) rfl
            have q2 := hb4.cell_of (i := 2) rfl
            have q3 := hb4.cell_of (i := 3) rfl
            have HCE : Hid (∀ {V : World} {S1 S3 : St}, Two vf V D' M' R' Q' S1 S3 (fun b => mid w2 vf none_ b ∧ b ≠ B) → (V.cell? ⟨B, 0, none⟩ = some (.pointer (some ⟨D', 0, none⟩)) ∧ V.cell? ⟨B, 1, none⟩ = some (.pointer (some ⟨M', 0, none⟩)) ∧ V.cell? ⟨B, 2, none⟩ = some (.pointer (some ⟨R', 0, none⟩)) ∧ V.cell? ⟨B, 3, none⟩ = some (.pointer (some ⟨Q', 0, none⟩))) ∧ V.cell? (a.add (k * 8)) = some (.int .i64 d.op) ∧ V.cell? ⟨(a.add (k * 8)).block, (a.add (k * 8)).off + 1, none⟩ = some (.int .i64 d.i) ∧ V.cell? ⟨(a.add (k * 8)).block, (a.add (k * 8)).off + 2, none⟩ = some (.int .u32 d.r.id) ∧
                V.cell? ⟨(a.add (k * 8)).block, (a.add (k * 8)).off + 3, none⟩ = some (.bool d.r.wr) ∧ V.cell? ⟨(a.add (k * 8)).block, (a.add (k * 8)).off + 4, none⟩ = some (.int .i64 d.r.sec) ∧
                V.cell? ⟨(a.add (k * 8)).block, (a.add (k * 8)).off + 5, none⟩ = some (.int .i64 d.r.fr) ∧ V.cell? ⟨(a.add (k * 8)).block, (a.add (k * 8)).off + 6, none⟩ = some (.int .u8 d.r.own) ∧ V.cell? ⟨(a.add (k * 8)).block, (a.add (k * 8)).off + 7, none⟩ = some d.bv) := fun {V S1 S3} h => by
              have hb := HBB.out h
              have hkk : Keep none_ w V := hw2.trans (HLW.out h).keep
              refine ⟨⟨hb.cell_of (i := 0) rfl, hb.cell_of (i := 1) rfl, hb.cell_of (i := 2) rfl, hb.cell_of (i := 3) rfl⟩, deed_cells fun j u hu => ?_⟩
              have h1 := hcw k d hdk j u hu
              exact (hkk.cell (World.block_lt_of_cell? w _ h1) id).trans h1
            obtain ⟨op, ix, ⟨rid, rwr, rsec, rfr, rown⟩, bb, bv⟩ := d
            simp only at c0 c1 c2 c3 c4 c5 c6 c7 HCE
            clear hcw hc e2 e3 e2' e3' hdk hrun hle hb4 hwf hbG hbd hby hk2 hw2
            unfold dcells xcells at hdo
            simp only at hdo
            go_wp2_with fail
            go_region_held3 (fun X => X.cell? ⟨B, 0, none⟩ = some (.pointer (some ⟨D', 0, none⟩)) ∧ X.cell? ⟨B, 1, none⟩ = some (.pointer (some ⟨M', 0, none⟩)) ∧ X.cell? ⟨B, 2, none⟩ = some (.pointer (some ⟨R', 0, none⟩)) ∧ X.cell? ⟨B, 3, none⟩ = some (.pointer (some ⟨Q', 0, none⟩)) ∧ X.cell? (a.add (k * 8)) = some (.int .i64 op) ∧ X.cell? ⟨(a.add (k * 8)).block, (a.add (k * 8)).off + 1, none⟩ = some (.int .i64 ix) ∧ X.cell? ⟨(a.add (k * 8)).block, (a.add (k * 8)).off + 2, none⟩ = some (.int .u32 rid) ∧ X.cell? ⟨(a.add (k * 8)).block, (a.add (k * 8)).off + 3, none⟩ = some (.bool rwr) ∧ X.cell? ⟨(a.add (k * 8)).block, (a.add (k * 8)).off + 4, none⟩ = some (.int .i64 rsec) ∧ X.cell? ⟨(a.add (k * 8)).block, (a.add (k * 8)).off + 5, none⟩ = some (.int .i64 rfr) ∧ X.cell? ⟨(a.add (k * 8)).block, (a.add (k * 8)).off + 6, none⟩ = some (.int .u8 rown) ∧ X.cell? ⟨(a.add (k * 8)).block, (a.add (k * 8)).off + 7, none⟩ = some bv)
              (first | exact ⟨q0, q1, q2, q3, c0, c1, c2, c3, c4, c5, c6, c7⟩ | exact ⟨r0, r1, r2, r3, x0, x1, x2, x3, x4, x5, x6, x7⟩ | go_keep)
              (first | (go_at_call 34; refine Calls.mono (by exact hdo.out _ HD4.out) ?_; rintro e w5 ⟨rfl, ht⟩; obtain ⟨⟨r0, r1, r2, r3⟩, x0, x1, x2, x3, x4, x5, x6, x7⟩ := HCE.out ht; have HT := Lib.hid ht; clear ht))
            go_wp2
            go_roundw
            case rel => exact ⟨k + 1, by omega, by omega, by go_num, HT⟩
            case measure => simp [intOf]; omega
          · have HQA : Hid (Keep none_ w2 wr) := (HLW.out HK.out).keep
            have hca := HC.out HQA.out
            have q0 := hca.cell_of (i := 0) rfl
            have q1 := hca.cell_of (i := 1) rfl
            have q2 := hca.cell_of (i := 2) rfl
            have q3 := hca.cell_of (i := 3) rfl
            have hsm := same_all (H2.out.keep0 HQA.out)
            unfold xcells at hsm
            have HS1 := Lib.hid hsm
            clear hsm hca
            have key : ¬ (k : Int) < (n : Int) ∨ ((k : Int) < (n : Int) ∧ ¬ (k : Int) < 12) := by omega
            rcases key with i1 | ⟨i1, i2⟩
            all_goals
              go_wp2_with fail
              refine HS1.out.mono ?_
              rintro e w5 ⟨rfl, hk5⟩
              have hK5 := HK.out.keep0 hk5
              have hcb := HBB.out hK5
              have r0 := hcb.cell_of (i := 0) rfl
              have r1 := hcb.cell_of (i := 1) rfl
              have r2 := hcb.cell_of (i := 2) rfl
              have r3 := hcb.cell_of (i := 3) rfl
              have hsm := same_all hK5
              unfold xcells at hsm
              have HS2 := Lib.hid hsm
              have HKK := Lib.hid (((HLV.out H2.out).keep.trans HQA.out).trans hk5)
              clear hsm hcb hK5 hk5
              go_wp2_with fail
              refine HS2.out.mono ?_
              rintro e w6 ⟨rfl, hk6⟩
              have HK6 := Lib.hid (HKK.out.trans hk6)
              clear hk6
              go_wp2
              go_ret
              exact ⟨rfl, HK6.out⟩
    · skip
      go_simp
      have hB : Blk (v0.alloc (.cells #[.pointer none, .pointer none, .pointer none, .pointer none] 29)) v0.heap.size 29 [.pointer none, .pointer none, .pointer none, .pointer none] := Blk.new v0 29 _
      have hal : Keep none_ v0 (v0.alloc (.cells #[.pointer none, .pointer none, .pointer none, .pointer none] 29)) := (Keep.refl _ v0).alloc _
      have hlb : w2.heap.size ≤ v0.heap.size := HFK.out.keep.size
      replace HFK := Lib.hid (HFK.out.more hal)
      replace hS := hS.keep hal id
      replace hf1 := hf1.keep hal
      generalize hcu : v0.alloc (.cells #[.pointer none, .pointer none, .pointer none, .pointer none] 29) = va at *
      have hsa : v0.heap.size < va.heap.size := by rw [← hcu]; simp
      refine hK.out _ _ (.inr hS) ?_
      clear hK K hal hcu
      refine wpAnyX_ready (rs := [5]) (by kernel_rfl) (by simp) ?_
      refine AllX.cons rfl (fun K hK => ?_) AllX.nil
      go_simp
      refine Calls.mono (by exact HFK.out.f2) ?_
      rintro e v1 ⟨M', rfl, hf2, hkk, hfk⟩
      have hs1 : va.heap.size ≤ v1.heap.size := hkk.size
      replace HFK := Lib.hid hfk
      replace hS := hS.keep hkk id
      replace hf1 := hf1.keep hkk
      replace hB := hB.keep hkk id
      clear hkk hfk
      refine hK.out _ _ (.inr hS) ?_
      clear hK K
      refine wpAnyX_ready (rs := [8]) (by kernel_rfl) (by simp) ?_
      refine AllX.cons rfl (fun K hK => ?_) AllX.nil
      go_simp
      refine Calls.mono (by exact HFK.out.f3) ?_
      rintro e v2 ⟨R', rfl, hf3, hkk, hfk⟩
      have hs2 : v1.heap.size ≤ v2.heap.size := hkk.size
      replace HFK := Lib.hid hfk
      replace hS := hS.keep hkk id
      replace hf1 := hf1.keep hkk
      replace hf2 := hf2.keep hkk
      replace hB := hB.keep hkk id
      clear hkk hfk
      refine hK.out _ _ (.inr hS) ?_
      clear hK K
      refine wpAnyX_ready (rs := [11]) (by kernel_rfl) (by simp) ?_
      refine AllX.cons rfl (fun K hK => ?_) AllX.nil
      go_simp
      refine Calls.mono (by exact HFK.out.f4) ?_
      rintro e v3 ⟨Q', rfl, hf4, hkk, hfk⟩
      have hs3 : v2.heap.size ≤ v3.heap.size := hkk.size
      replace HFK := Lib.hid hfk
      replace hS := hS.keep hkk id
      replace hf1 := hf1.keep hkk
      replace hf2 := hf2.keep hkk
      replace hf3 := hf3.keep hkk
      replace hB := hB.keep hkk id
      clear hkk hfk
      refine hK.out _ _ (.inr hS) ?_
      clear hK K
      refine wpAnyX_take (i := 12) (v := ?_) rfl (by kernel_rfl) (by kernel_rfl) (by kernel_rfl) (by kernel_rfl) (by decide) (fun _ _ _ h => h) hS (Or.inl ⟨by rfl, fun W hSW => ?_⟩) ?_
      rotate_left
      { go_simp
        with_reducible rfl }
      refine wpAnyX_ready (rs := [14]) (by kernel_rfl) (by simp) ?_
      refine AllX.cons rfl (fun K hK => ?_) AllX.nil
      have z0 := hB.cell_of (i := 0) rfl
      have z1 := hB.cell_of (i := 1) rfl
      have z2 := hB.cell_of (i := 2) rfl
      have z3 := hB.cell_of (i := 3) rfl
      have y0 := hB.frozen 0
      have y1 := hB.frozen 1
      have y2 := hB.frozen 2
      have y3 := hB.frozen 3
      go_simp
      refine hK.out _ _ (.inl rfl) ?_
      clear hK K
      refine wpAnyX_done (by kernel_rfl) ?_ _
      have hszd := HSZD.out
      have hnew : Two w2 v3 D' M' R' Q' S S none_ := HFK.out.two hf1 hf2 hf3 hf4 (by omega) (by omega) (by omega) (by omega) (by omega)
      have hge : w2.heap.size ≤ v0.heap.size := by omega
      clear hszd HFK hf1 hf2 hf3 hf4 hS z0 z1 z2 z3 y0 y1 y2 y3 hs0 hs1 hs2 hs3 hsa
      clear HSZD
      generalize v0.heap.size = B at *
      obtain ⟨vf, hvf⟩ : ∃ vf, vf = ((((v3.setCell ⟨B, 0, none⟩ (.pointer (some ⟨D', 0, none⟩))).setCell ⟨B, 1, none⟩ (.pointer (some ⟨M', 0, none⟩))).setCell ⟨B, 2, none⟩ (.pointer (some ⟨R', 0, none⟩))).setCell ⟨B, 3, none⟩ (.pointer (some ⟨Q', 0, none⟩))) := ⟨_, rfl⟩
      rw [← hvf]
      obtain ⟨hBf, hkf⟩ := boxed hB _ _ _ _ hvf
      have hT := hnew.box hB hkf (.inr hge)
      have HST : Hid (Two vf vf D' M' R' Q' (runS S es 0) (runS S es 0) (fun b => mid w2 vf none_ b ∧ b ≠ B)) := hT.beside hBf
      have HLW : Hid (∀ {V : World} {S1 S3 : St}, Two vf V D' M' R' Q' S1 S3 (fun b => mid w2 vf none_ b ∧ b ≠ B) → Two w2 V D' M' R' Q' S1 S3 none_) := fun h => (h.mono (fun b hb => hb.1)).leave (Keep.refl _ vf) hT.keep
      have HBB : Hid (∀ {V : World} {S1 S3 : St}, Two vf V D' M' R' Q' S1 S3 (fun b => mid w2 vf none_ b ∧ b ≠ B) → Blk V B 29 [.pointer (some ⟨D', 0, none⟩), .pointer (some ⟨M', 0, none⟩), .pointer (some ⟨R', 0, none⟩), .pointer (some ⟨Q', 0, none⟩)]) := fun h => hBf.keep h.keep (fun hm => hm.2 rfl)
      have HVF : Hid (Keep none_ w2 vf) := hT.keep
      clear hvf hkf hBf hT hnew hge hB
      skip
      go_wp2_with fail
      go_loopw [8] (fun x wr => ∃ k : Nat, k ≤ n ∧ k ≤ 12 ∧ x = .int .i64 k ∧ Hid (Two vf wr D' M' R' Q' (runS S es k) (runS S es k) (fun b => mid w2 vf none_ b ∧ b ≠ B))) (fun x _ => 12 - (intOf x).toNat)
      case atStart => exact ⟨0, by omega, by omega, rfl, HST⟩
      case round =>
        obtain ⟨k, hk, hk50, rfl, HK⟩ := hrel
        have hle : (runS S es k).last ≤ 1000 := by have h1 := run_last S es k; have h3 := HLA.out; omega
        by_cases hkn : k < n ∧ k < 12
        · have i0 : (0 : Int) ≤ (k : Int) := by omega
          have i1 : (k : Int) < (n : Int) := by omega
          have i2 : (k : Int) < 12 := by omega
          have hk2 := (HLW.out HK.out).keep
          have hw2 : Keep none_ w w2 := (HLV.out H2.out).keep
          have hwf : Keep none_ w vf := hw2.trans HVF.out
          have hds := HD.out.keep (hw2.trans hk2)
          obtain ⟨d, hdk⟩ : ∃ d, es[k]? = some d := ⟨_, List.getElem?_eq_getElem (by have := HN.out; omega)⟩
          rcases HD.out with ⟨h0, _⟩ | ⟨a, cap', he, _, hcw, hby⟩
          · rw [h0] at hdk; simp at hdk
          rcases hds with ⟨h0, _⟩ | ⟨a', cap'', he', _, hc, _⟩
          · rw [h0] at hdk; simp at hdk
          injection he with e1 e2 e3
          injection he' with e1' e2' e3'
          subst e1
          injection e1' with e1'
          subst e1'
          have hbd := hby d (List.mem_of_getElem? hdk)
          obtain ⟨c0, c1, c2, c3, c4, c5, c6, c7⟩ := deed_cells (hc k d hdk)
          have hrun : doS (runS S es k) d = runS S es (k + 1) := by show _ = doS (runS S es k) (es.getD k _); rw [List.getD_eq_getElem?_getD, hdk]; rfl
          have hbG : ∀ ad n c, d.bv = .slice (some ad) n c → 0 < n → ¬ (mid w2 vf none_ ad.block ∧ ad.block ≠ B) := fun ad n c e hn hm => by
            have h1 := hbd.2 ad n c e hn
            have h2 := hw2.size
            rcases hm.1.1 with h | h
            · exact h
            · omega
          have hdo : ∀ V, Two vf V D' M' R' Q' (runS S es k) (runS S es k) (fun b => mid w2 vf none_ b ∧ b ≠ B) → Calls Try.prog 34 #[.agg (xcells D' M' R' Q').toArray, .agg (dcells d).toArray] V fun e w' => e = .returned (.bool true) ∧ Two vf w' D' M' R' Q' (runS S es (k + 1)) (runS S es (k + 1)) (fun b => mid w2 vf none_ b ∧ b ≠ B) := fun V h => by
            have := do_any h hle d (hbd.1.keep0 hwf) hbG
            rw [hrun] at this
            exact this
          replace hdo := Lib.hid hdo
          have hb4 := HBB.out HK.out
          have HD4 := Lib.hid (HK.out.keep0 ((Keep.refl none_ wr).drew))
          have q0 := hb4.cell_of (i := 0) rfl
          have q1 := hb4.cell_of (i := 1) rfl
          have q2 := hb4.cell_of (i := 2) rfl
          have q3 := hb4.cell_of (i := 3) rfl
          have HCE : Hid (∀ {V : World} {S1 S3 : St}, Two vf V D' M' R' Q' S1 S3 (fun b => mid w2 vf none_ b ∧ b ≠ B) → (V.cell? ⟨B, 0, none⟩ = some (.pointer (some ⟨D', 0, none⟩)) ∧ V.cell? ⟨B, 1, none⟩ = some (.pointer (some ⟨M', 0, none⟩)) ∧ V.cell? ⟨B, 2, none⟩ = some (.pointer (some ⟨R', 0, none⟩)) ∧ V.cell? ⟨B, 3, none⟩ = some (.pointer (some ⟨Q', 0, none⟩))) ∧ V.cell? (a.add (k * 8)) = some (.int .i64 d.op) ∧ V.cell? ⟨(a.add (k * 8)).block, (a.add (k * 8)).off + 1, none⟩ = some (.int .i64 d.i) ∧ V.cell? ⟨(a.add (k * 8)).block, (a.add (k * 8)).off + 2, none⟩ = some (.int .u32 d.r.id) ∧
              V.cell? ⟨(a.add (k * 8)).block, (a.add (k * 8)).off + 3, none⟩ = some (.bool d.r.wr) ∧ V.cell? ⟨(a.add (k * 8)).block, (a.add (k * 8)).off + 4, none⟩ = some (.int .i64 d.r.sec) ∧
              V.cell? ⟨(a.add (k * 8)).block, (a.add (k * 8)).off + 5, none⟩ = some (.int .i64 d.r.fr) ∧ V.cell? ⟨(a.add (k * 8)).block, (a.add (k * 8)).off + 6, none⟩ = some (.int .u8 d.r.own) ∧ V.cell? ⟨(a.add (k * 8)).block, (a.add (k * 8)).off + 7, none⟩ = some d.bv) := fun {V S1 S3} h => by
            have hb := HBB.out h
            have hkk : Keep none_ w V := hw2.trans (HLW.out h).keep
            refine ⟨⟨hb.cell_of (i := 0) rfl, hb.cell_of (i := 1) rfl, hb.cell_of (i := 2) rfl, hb.cell_of (i := 3) rfl⟩, deed_cells fun j u hu => ?_⟩
            have h1 := hcw k d hdk j u hu
            exact (hkk.cell (World.block_lt_of_cell? w _ h1) id).trans h1
          obtain ⟨op, ix, ⟨rid, rwr, rsec, rfr, rown⟩, bb, bv⟩ := d
          simp only at c0 c1 c2 c3 c4 c5 c6 c7 HCE
          clear hcw hc e2 e3 e2' e3' hdk hrun hle hb4 hwf hbG hbd hby hk2 hw2
          unfold dcells xcells at hdo
          simp only at hdo
          go_wp2_with fail
          go_region_held3 (fun X => X.cell? ⟨B, 0, none⟩ = some (.pointer (some ⟨D', 0, none⟩)) ∧ X.cell? ⟨B, 1, none⟩ = some (.pointer (some ⟨M', 0, none⟩)) ∧ X.cell? ⟨B, 2, none⟩ = some (.pointer (some ⟨R', 0, none⟩)) ∧ X.cell? ⟨B, 3, none⟩ = some (.pointer (some ⟨Q', 0, none⟩)) ∧ X.cell? (a.add (k * 8)) = some (.int .i64 op) ∧ X.cell? ⟨(a.add (k * 8)).block, (a.add (k * 8)).off + 1, none⟩ = some (.int .i64 ix) ∧ X.cell? ⟨(a.add (k * 8)).block, (a.add (k * 8)).off + 2, none⟩ = some (.int .u32 rid) ∧ X.cell? ⟨(a.add (k * 8)).block, (a.add (k * 8)).off + 3, none⟩ = some (.bool rwr) ∧ X.cell? ⟨(a.add (k * 8)).block, (a.add (k * 8)).off + 4, none⟩ = some (.int .i64 rsec) ∧ X.cell? ⟨(a.add (k * 8)).block, (a.add (k * 8)).off + 5, none⟩ = some (.int .i64 rfr) ∧ X.cell? ⟨(a.add (k * 8)).block, (a.add (k * 8)).off + 6, none⟩ = some (.int .u8 rown) ∧ X.cell? ⟨(a.add (k * 8)).block, (a.add (k * 8)).off + 7, none⟩ = some bv)
            (first | exact ⟨q0, q1, q2, q3, c0, c1, c2, c3, c4, c5, c6, c7⟩ | exact ⟨r0, r1, r2, r3, x0, x1, x2, x3, x4, x5, x6, x7⟩ | go_keep)
            (first | (go_at_call 34; refine Calls.mono (by exact hdo.out _ HD4.out) ?_; rintro e w5 ⟨rfl, ht⟩; obtain ⟨⟨r0, r1, r2, r3⟩, x0, x1, x2, x3, x4, x5, x6, x7⟩ := HCE.out ht; have HT := Lib.hid ht; clear ht))
          go_wp2
          go_roundw
          case rel => exact ⟨k + 1, by omega, by omega, by go_num, HT⟩
          case measure => simp [intOf]; omega
        · have HQA : Hid (Keep none_ w2 wr) := (HLW.out HK.out).keep
          have hca := HC.out HQA.out
          have q0 := hca.cell_of (i := 0) rfl
          have q1 := hca.cell_of (i := 1) rfl
          have q2 := hca.cell_of (i := 2) rfl
          have q3 := hca.cell_of (i := 3) rfl
          have hsm := same_all (H2.out.keep0 HQA.out)
          unfold xcells at hsm
          have HS1 := Lib.hid hsm
          clear hsm hca
          have key : ¬ (k : Int) < (n : Int) ∨ ((k : Int) < (n : Int) ∧ ¬ (k : Int) < 12) := by omega
          rcases key with i1 | ⟨i1, i2⟩
          all_goals
            go_wp2_with fail
            refine HS1.out.mono ?_
            rintro e w5 ⟨rfl, hk5⟩
            have hK5 := HK.out.keep0 hk5
            have hcb := HBB.out hK5
            have r0 := hcb.cell_of (i := 0) rfl
            have r1 := hcb.cell_of (i := 1) rfl
            have r2 := hcb.cell_of (i := 2) rfl
            have r3 := hcb.cell_of (i := 3) rfl
            have hsm := same_all hK5
            unfold xcells at hsm
            have HS2 := Lib.hid hsm
            have HKK := Lib.hid (((HLV.out H2.out).keep.trans HQA.out).trans hk5)
            clear hsm hcb hK5 hk5
            go_wp2_with fail
            refine HS2.out.mono ?_
            rintro e w6 ⟨rfl, hk6⟩
            have HK6 := Lib.hid (HKK.out.trans hk6)
            clear hk6
            go_wp2
            go_ret
            exact ⟨rfl, HK6.out⟩
  · skip
    go_simp
    have hB : Blk (wd.alloc (.cells #[.pointer none, .pointer none, .pointer none, .pointer none] 29)) wd.heap.size 29 [.pointer none, .pointer none, .pointer none, .pointer none] := Blk.new wd 29 _
    have hal : Keep none_ wd (wd.alloc (.cells #[.pointer none, .pointer none, .pointer none, .pointer none] 29)) := (Keep.refl _ wd).alloc _
    have hlb : w2.heap.size ≤ wd.heap.size := HFK.out.keep.size
    replace HFK := Lib.hid (HFK.out.more hal)
    replace hS := hS.keep hal id
    generalize hcu : wd.alloc (.cells #[.pointer none, .pointer none, .pointer none, .pointer none] 29) = va at *
    have hsa : wd.heap.size < va.heap.size := by rw [← hcu]; simp
    refine hK.out _ _ (.inr hS) ?_
    clear hK K hal hcu
    refine wpAnyX_ready (rs := [2]) (by kernel_rfl) (by simp) ?_
    refine AllX.cons rfl (fun K hK => ?_) AllX.nil
    go_simp
    refine Calls.mono (by exact HFK.out.f1) ?_
    rintro e v0 ⟨D', rfl, hf1, hkk, hfk⟩
    have hs0 : va.heap.size ≤ v0.heap.size := hkk.size
    replace HFK := Lib.hid hfk
    replace hS := hS.keep hkk id
    replace hB := hB.keep hkk id
    clear hkk hfk
    refine hK.out _ _ (.inr hS) ?_
    clear hK K
    refine wpAnyX_ready (rs := [5]) (by kernel_rfl) (by simp) ?_
    refine AllX.cons rfl (fun K hK => ?_) AllX.nil
    go_simp
    refine Calls.mono (by exact HFK.out.f2) ?_
    rintro e v1 ⟨M', rfl, hf2, hkk, hfk⟩
    have hs1 : v0.heap.size ≤ v1.heap.size := hkk.size
    replace HFK := Lib.hid hfk
    replace hS := hS.keep hkk id
    replace hf1 := hf1.keep hkk
    replace hB := hB.keep hkk id
    clear hkk hfk
    refine hK.out _ _ (.inr hS) ?_
    clear hK K
    refine wpAnyX_ready (rs := [8]) (by kernel_rfl) (by simp) ?_
    refine AllX.cons rfl (fun K hK => ?_) AllX.nil
    go_simp
    refine Calls.mono (by exact HFK.out.f3) ?_
    rintro e v2 ⟨R', rfl, hf3, hkk, hfk⟩
    have hs2 : v1.heap.size ≤ v2.heap.size := hkk.size
    replace HFK := Lib.hid hfk
    replace hS := hS.keep hkk id
    replace hf1 := hf1.keep hkk
    replace hf2 := hf2.keep hkk
    replace hB := hB.keep hkk id
    clear hkk hfk
    refine hK.out _ _ (.inr hS) ?_
    clear hK K
    refine wpAnyX_ready (rs := [11]) (by kernel_rfl) (by simp) ?_
    refine AllX.cons rfl (fun K hK => ?_) AllX.nil
    go_simp
    refine Calls.mono (by exact HFK.out.f4) ?_
    rintro e v3 ⟨Q', rfl, hf4, hkk, hfk⟩
    have hs3 : v2.heap.size ≤ v3.heap.size := hkk.size
    replace HFK := Lib.hid hfk
    replace hS := hS.keep hkk id
    replace hf1 := hf1.keep hkk
    replace hf2 := hf2.keep hkk
    replace hf3 := hf3.keep hkk
    replace hB := hB.keep hkk id
    clear hkk hfk
    refine hK.out _ _ (.inr hS) ?_
    clear hK K
    refine wpAnyX_take (i := 12) (v := ?_) rfl (by kernel_rfl) (by kernel_rfl) (by kernel_rfl) (by kernel_rfl) (by decide) (fun _ _ _ h => h) hS (Or.inl ⟨by rfl, fun W hSW => ?_⟩) ?_
    rotate_left
    { go_simp
      with_reducible rfl }
    refine wpAnyX_ready (rs := [14]) (by kernel_rfl) (by simp) ?_
    refine AllX.cons rfl (fun K hK => ?_) AllX.nil
    have z0 := hB.cell_of (i := 0) rfl
    have z1 := hB.cell_of (i := 1) rfl
    have z2 := hB.cell_of (i := 2) rfl
    have z3 := hB.cell_of (i := 3) rfl
    have y0 := hB.frozen 0
    have y1 := hB.frozen 1
    have y2 := hB.frozen 2
    have y3 := hB.frozen 3
    go_simp
    refine hK.out _ _ (.inl rfl) ?_
    clear hK K
    refine wpAnyX_done (by kernel_rfl) ?_ _
    have hszd := HSZD.out
    have hnew : Two w2 v3 D' M' R' Q' S S none_ := HFK.out.two hf1 hf2 hf3 hf4 (by omega) (by omega) (by omega) (by omega) (by omega)
    have hge : w2.heap.size ≤ wd.heap.size := by omega
    clear hszd HFK hf1 hf2 hf3 hf4 hS z0 z1 z2 z3 y0 y1 y2 y3 hs0 hs1 hs2 hs3 hsa
    clear HSZD
    generalize wd.heap.size = B at *
    obtain ⟨vf, hvf⟩ : ∃ vf, vf = ((((v3.setCell ⟨B, 0, none⟩ (.pointer (some ⟨D', 0, none⟩))).setCell ⟨B, 1, none⟩ (.pointer (some ⟨M', 0, none⟩))).setCell ⟨B, 2, none⟩ (.pointer (some ⟨R', 0, none⟩))).setCell ⟨B, 3, none⟩ (.pointer (some ⟨Q', 0, none⟩))) := ⟨_, rfl⟩
    rw [← hvf]
    obtain ⟨hBf, hkf⟩ := boxed hB _ _ _ _ hvf
    have hT := hnew.box hB hkf (.inr hge)
    have HST : Hid (Two vf vf D' M' R' Q' (runS S es 0) (runS S es 0) (fun b => mid w2 vf none_ b ∧ b ≠ B)) := hT.beside hBf
    have HLW : Hid (∀ {V : World} {S1 S3 : St}, Two vf V D' M' R' Q' S1 S3 (fun b => mid w2 vf none_ b ∧ b ≠ B) → Two w2 V D' M' R' Q' S1 S3 none_) := fun h => (h.mono (fun b hb => hb.1)).leave (Keep.refl _ vf) hT.keep
    have HBB : Hid (∀ {V : World} {S1 S3 : St}, Two vf V D' M' R' Q' S1 S3 (fun b => mid w2 vf none_ b ∧ b ≠ B) → Blk V B 29 [.pointer (some ⟨D', 0, none⟩), .pointer (some ⟨M', 0, none⟩), .pointer (some ⟨R', 0, none⟩), .pointer (some ⟨Q', 0, none⟩)]) := fun h => hBf.keep h.keep (fun hm => hm.2 rfl)
    have HVF : Hid (Keep none_ w2 vf) := hT.keep
    clear hvf hkf hBf hT hnew hge hB
    skip
    go_wp2_with fail
    go_loopw [8] (fun x wr => ∃ k : Nat, k ≤ n ∧ k ≤ 12 ∧ x = .int .i64 k ∧ Hid (Two vf wr D' M' R' Q' (runS S es k) (runS S es k) (fun b => mid w2 vf none_ b ∧ b ≠ B))) (fun x _ => 12 - (intOf x).toNat)
    case atStart => exact ⟨0, by omega, by omega, rfl, HST⟩
    case round =>
      obtain ⟨k, hk, hk50, rfl, HK⟩ := hrel
      have hle : (runS S es k).last ≤ 1000 := by have h1 := run_last S es k; have h3 := HLA.out; omega
      by_cases hkn : k < n ∧ k < 12
      · have i0 : (0 : Int) ≤ (k : Int) := by omega
        have i1 : (k : Int) < (n : Int) := by omega
        have i2 : (k : Int) < 12 := by omega
        have hk2 := (HLW.out HK.out).keep
        have hw2 : Keep none_ w w2 := (HLV.out H2.out).keep
        have hwf : Keep none_ w vf := hw2.trans HVF.out
        have hds := HD.out.keep (hw2.trans hk2)
        obtain ⟨d, hdk⟩ : ∃ d, es[k]? = some d := ⟨_, List.getElem?_eq_getElem (by have := HN.out; omega)⟩
        rcases HD.out with ⟨h0, _⟩ | ⟨a, cap', he, _, hcw, hby⟩
        · rw [h0] at hdk; simp at hdk
        rcases hds with ⟨h0, _⟩ | ⟨a', cap'', he', _, hc, _⟩
        · rw [h0] at hdk; simp at hdk
        injection he with e1 e2 e3
        injection he' with e1' e2' e3'
        subst e1
        injection e1' with e1'
        subst e1'
        have hbd := hby d (List.mem_of_getElem? hdk)
        obtain ⟨c0, c1, c2, c3, c4, c5, c6, c7⟩ := deed_cells (hc k d hdk)
        have hrun : doS (runS S es k) d = runS S es (k + 1) := by show _ = doS (runS S es k) (es.getD k _); rw [List.getD_eq_getElem?_getD, hdk]; rfl
        have hbG : ∀ ad n c, d.bv = .slice (some ad) n c → 0 < n → ¬ (mid w2 vf none_ ad.block ∧ ad.block ≠ B) := fun ad n c e hn hm => by
          have h1 := hbd.2 ad n c e hn
          have h2 := hw2.size
          rcases hm.1.1 with h | h
          · exact h
          · omega
        have hdo : ∀ V, Two vf V D' M' R' Q' (runS S es k) (runS S es k) (fun b => mid w2 vf none_ b ∧ b ≠ B) → Calls Try.prog 34 #[.agg (xcells D' M' R' Q').toArray, .agg (dcells d).toArray] V fun e w' => e = .returned (.bool true) ∧ Two vf w' D' M' R' Q' (runS S es (k + 1)) (runS S es (k + 1)) (fun b => mid w2 vf none_ b ∧ b ≠ B) := fun V h => by
          have := do_any h hle d (hbd.1.keep0 hwf) hbG
          rw [hrun] at this
          exact this
        replace hdo := Lib.hid hdo
        have hb4 := HBB.out HK.out
        have HD4 := Lib.hid (HK.out.keep0 ((Keep.refl none_ wr).drew))
        have q0 := hb4.cell_of (i := 0) rfl
        have q1 := hb4.cell_of (i := 1) rfl
        have q2 := hb4.cell_of (i := 2) rfl
        have q3 := hb4.cell_of (i := 3) rfl
        have HCE : Hid (∀ {V : World} {S1 S3 : St}, Two vf V D' M' R' Q' S1 S3 (fun b => mid w2 vf none_ b ∧ b ≠ B) → (V.cell? ⟨B, 0, none⟩ = some (.pointer (some ⟨D', 0, none⟩)) ∧ V.cell? ⟨B, 1, none⟩ = some (.pointer (some ⟨M', 0, none⟩)) ∧ V.cell? ⟨B, 2, none⟩ = some (.pointer (some ⟨R', 0, none⟩)) ∧ V.cell? ⟨B, 3, none⟩ = some (.pointer (some ⟨Q', 0, none⟩))) ∧ V.cell? (a.add (k * 8)) = some (.int .i64 d.op) ∧ V.cell? ⟨(a.add (k * 8)).block, (a.add (k * 8)).off + 1, none⟩ = some (.int .i64 d.i) ∧ V.cell? ⟨(a.add (k * 8)).block, (a.add (k * 8)).off + 2, none⟩ = some (.int .u32 d.r.id) ∧
            V.cell? ⟨(a.add (k * 8)).block, (a.add (k * 8)).off + 3, none⟩ = some (.bool d.r.wr) ∧ V.cell? ⟨(a.add (k * 8)).block, (a.add (k * 8)).off + 4, none⟩ = some (.int .i64 d.r.sec) ∧
            V.cell? ⟨(a.add (k * 8)).block, (a.add (k * 8)).off + 5, none⟩ = some (.int .i64 d.r.fr) ∧ V.cell? ⟨(a.add (k * 8)).block, (a.add (k * 8)).off + 6, none⟩ = some (.int .u8 d.r.own) ∧ V.cell? ⟨(a.add (k * 8)).block, (a.add (k * 8)).off + 7, none⟩ = some d.bv) := fun {V S1 S3} h => by
          have hb := HBB.out h
          have hkk : Keep none_ w V := hw2.trans (HLW.out h).keep
          refine ⟨⟨hb.cell_of (i := 0) rfl, hb.cell_of (i := 1) rfl, hb.cell_of (i := 2) rfl, hb.cell_of (i := 3) rfl⟩, deed_cells fun j u hu => ?_⟩
          have h1 := hcw k d hdk j u hu
          exact (hkk.cell (World.block_lt_of_cell? w _ h1) id).trans h1
        obtain ⟨op, ix, ⟨rid, rwr, rsec, rfr, rown⟩, bb, bv⟩ := d
        simp only at c0 c1 c2 c3 c4 c5 c6 c7 HCE
        clear hcw hc e2 e3 e2' e3' hdk hrun hle hb4 hwf hbG hbd hby hk2 hw2
        unfold dcells xcells at hdo
        simp only at hdo
        go_wp2_with fail
        go_region_held3 (fun X => X.cell? ⟨B, 0, none⟩ = some (.pointer (some ⟨D', 0, none⟩)) ∧ X.cell? ⟨B, 1, none⟩ = some (.pointer (some ⟨M', 0, none⟩)) ∧ X.cell? ⟨B, 2, none⟩ = some (.pointer (some ⟨R', 0, none⟩)) ∧ X.cell? ⟨B, 3, none⟩ = some (.pointer (some ⟨Q', 0, none⟩)) ∧ X.cell? (a.add (k * 8)) = some (.int .i64 op) ∧ X.cell? ⟨(a.add (k * 8)).block, (a.add (k * 8)).off + 1, none⟩ = some (.int .i64 ix) ∧ X.cell? ⟨(a.add (k * 8)).block, (a.add (k * 8)).off + 2, none⟩ = some (.int .u32 rid) ∧ X.cell? ⟨(a.add (k * 8)).block, (a.add (k * 8)).off + 3, none⟩ = some (.bool rwr) ∧ X.cell? ⟨(a.add (k * 8)).block, (a.add (k * 8)).off + 4, none⟩ = some (.int .i64 rsec) ∧ X.cell? ⟨(a.add (k * 8)).block, (a.add (k * 8)).off + 5, none⟩ = some (.int .i64 rfr) ∧ X.cell? ⟨(a.add (k * 8)).block, (a.add (k * 8)).off + 6, none⟩ = some (.int .u8 rown) ∧ X.cell? ⟨(a.add (k * 8)).block, (a.add (k * 8)).off + 7, none⟩ = some bv)
          (first | exact ⟨q0, q1, q2, q3, c0, c1, c2, c3, c4, c5, c6, c7⟩ | exact ⟨r0, r1, r2, r3, x0, x1, x2, x3, x4, x5, x6, x7⟩ | go_keep)
          (first | (go_at_call 34; refine Calls.mono (by exact hdo.out _ HD4.out) ?_; rintro e w5 ⟨rfl, ht⟩; obtain ⟨⟨r0, r1, r2, r3⟩, x0, x1, x2, x3, x4, x5, x6, x7⟩ := HCE.out ht; have HT := Lib.hid ht; clear ht))
        go_wp2
        go_roundw
        case rel => exact ⟨k + 1, by omega, by omega, by go_num, HT⟩
        case measure => simp [intOf]; omega
      · have HQA : Hid (Keep none_ w2 wr) := (HLW.out HK.out).keep
        have hca := HC.out HQA.out
        have q0 := hca.cell_of (i := 0) rfl
        have q1 := hca.cell_of (i := 1) rfl
        have q2 := hca.cell_of (i := 2) rfl
        have q3 := hca.cell_of (i := 3) rfl
        have hsm := same_all (H2.out.keep0 HQA.out)
        unfold xcells at hsm
        have HS1 := Lib.hid hsm
        clear hsm hca
        have key : ¬ (k : Int) < (n : Int) ∨ ((k : Int) < (n : Int) ∧ ¬ (k : Int) < 12) := by omega
        rcases key with i1 | ⟨i1, i2⟩
        all_goals
          go_wp2_with fail
          refine HS1.out.mono ?_
          rintro e w5 ⟨rfl, hk5⟩
          have hK5 := HK.out.keep0 hk5
          have hcb := HBB.out hK5
          have r0 := hcb.cell_of (i := 0) rfl
          have r1 := hcb.cell_of (i := 1) rfl
          have r2 := hcb.cell_of (i := 2) rfl
          have r3 := hcb.cell_of (i := 3) rfl
          have hsm := same_all hK5
          unfold xcells at hsm
          have HS2 := Lib.hid hsm
          have HKK := Lib.hid (((HLV.out H2.out).keep.trans HQA.out).trans hk5)
          clear hsm hcb hK5 hk5
          go_wp2_with fail
          refine HS2.out.mono ?_
          rintro e w6 ⟨rfl, hk6⟩
          have HK6 := Lib.hid (HKK.out.trans hk6)
          clear hk6
          go_wp2
          go_ret
          exact ⟨rfl, HK6.out⟩
end Go.Proofs.Ytjlenocmfeggdaa
