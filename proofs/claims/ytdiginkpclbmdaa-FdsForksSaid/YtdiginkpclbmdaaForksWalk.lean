/- The walk of the law FdsForks. -/
import Derived.Test.YtdiginkpclbmdaaCopy
import Derived.Test.YtdiginkpclbmdaaPlays
namespace Go.Proofs.Ytdiginkpclbmdaa
open Go.RowKit
attribute [local go_sem] cell_alloc_some frozen_alloc_some
theorem Two.copies {a w : World} {T R : Nat} {S : St} {G : Nat → Prop} (h : Two a w T R S S G) :
    Calls Try.prog 24 #[.pointer (some ⟨T, 0, none⟩)] w fun e w1 => ∃ T', e = .returned (.pointer (some ⟨T', 0, none⟩)) ∧ Calls Try.prog 25 #[.pointer (some ⟨R, 0, none⟩)] w1 fun e w2 => ∃ R', e = .returned (.pointer (some ⟨R', 0, none⟩)) ∧ Two w w2 T' R' S S none_ := by
  obtain ⟨FT, FR, ⟨pb, sb, h1⟩, ⟨v, h2⟩, h3, h4, h5, hR, h6⟩ := h
  refine (copy_any h1).mono ?_
  rintro e w1 ⟨T', rfl, hr, hk⟩
  refine ⟨T', rfl, ?_⟩
  have h2' := h2.keep0 hk
  refine (rcopy_any h2').mono ?_
  rintro e w2 ⟨rfl, hrr, hk2, hs⟩
  have hs1 := hk.size
  refine ⟨_, rfl, _, _, hr.keep0 hk2, ⟨v, hrr⟩, fun b hb hc => ?_, fun b hb => ⟨by omega, .inr hb.1⟩, fun b hb => ?_, .inr hs1, hk.trans hk2⟩
  · rcases hc with rfl | hc
    · omega
    · have := h5 b (h2.footA b hc); omega
  · rcases hb with rfl | hb
    · omega
    · have := h5 b (h2.footA b hb); omega
set_option maxRecDepth 100000 in
set_option maxHeartbeats 1000000 in
theorem forks_all (w : World) (v u : Value) (ds es : List Deed) (hd : Deeds w v ds) (he : Deeds w u es) :
    Calls Try.prog 7 #[v, u] w fun e w' => e = .returned (.bool true) ∧ Keep none_ w w' := by
  have H0 := Lib.hid (play_any w v ds hd)
  have HD := Lib.hid he
  obtain ⟨A, n, cap, rfl, hn, hn63⟩ : ∃ A n cap, u = .slice A n cap ∧ n = es.length ∧ n ≤ 9223372036854775807 := by
    rcases he with ⟨rfl, rfl⟩ | ⟨a, cap, rfl, hl, _⟩
    · exact ⟨none, 0, 0, rfl, rfl, by omega⟩
    · exact ⟨_, _, cap, rfl, rfl, by unfold maxLen at hl; omega⟩
  have HN := Lib.hid hn
  have hall : (playS ds).all.length ≤ 60 := by have h1 := run_all P0 ds (min ds.length 50); have h2 := all_do St.init zeroD; have h3 : St.init.all.length = 0 := rfl; unfold playS P0 at *; omega
  have HALL := Lib.hid hall
  generalize playS ds = S at *
  clear hd he hn hall
  go_enter Try.func7, Try.ntmps7
  go_wp2_with fail
  refine H0.out.mono ?_
  rintro e w1 ⟨T, R, rfl, h1⟩
  have H1 := Lib.hid h1
  have HL := Lib.hid (live_any w1)
  clear h1 H0
  go_wp2_with fail
  refine HL.out.mono ?_
  rintro e w2 ⟨rfl, hk2⟩
  have h2 := H1.out.keep0 hk2
  have HC := Lib.hid h2.copies
  have H2 := Lib.hid h2
  clear h2 hk2 H1 HL
  go_wp2_with fail
  refine HC.out.mono ?_
  rintro e w3 ⟨T', rfl, h3⟩
  have H3 := Lib.hid h3
  clear h3 HC
  go_wp2_with fail
  refine H3.out.mono ?_
  rintro e w4 ⟨R', rfl, h4⟩
  have H4 := Lib.hid h4
  clear h4 H3
  go_wp2
  go_loopw [10] (fun x wr => ∃ k : Nat, k ≤ n ∧ k ≤ 14 ∧ x = .int .i64 k ∧ Hid (Two w2 wr T' R' (runS S es k) (runS S es k) none_)) (fun x _ => 14 - (intOf x).toNat)
  case atStart => exact ⟨0, by omega, by omega, rfl, H4⟩
  case round =>
    obtain ⟨k, hk, hk14, rfl, HK⟩ := hrel
    have hle : (runS S es k).all.length ≤ 1000 := by have h1 := run_all S es k; have h2 := HALL.out; omega
    by_cases hkn : k < n
    · by_cases hk2 : k < 14
      · have i0 : (0 : Int) ≤ (k : Int) := by omega
        have i1 : (k : Int) < (n : Int) := by omega
        have i2 : (k : Int) < 14 := by omega
        have hds := HD.out.keep (H2.out.keep.trans HK.out.keep)
        obtain ⟨d, hdk⟩ : ∃ d, es[k]? = some d := ⟨_, List.getElem?_eq_getElem (by have := HN.out; omega)⟩
        rcases hds with ⟨h0, _⟩ | ⟨a, cap', he, _, hc⟩
        · rw [h0] at hdk; simp at hdk
        · injection he with e1 e2 e3
          subst e1
          obtain ⟨c0, c1, c2, c3, c4, c5, c6⟩ := deed_cells (hc k d hdk)
          have hdo := do_any HK.out hle d
          have hrun : doS (runS S es k) d = runS S es (k + 1) := by show _ = doS (runS S es k) (es.getD k _); rw [List.getD_eq_getElem?_getD, hdk]; rfl
          rw [hrun] at hdo
          replace hdo := Lib.hid hdo
          clear hc e2 e3 hdk hrun hle
          unfold dcells at hdo
          go_wp2_with fail
          refine hdo.out.mono ?_
          rintro e w5 ⟨rfl, h5⟩
          have H5 := Lib.hid h5
          clear h5 c0 c1 c2 c3 c4 c5 c6
          go_wp2
          go_roundw
          case rel => exact ⟨k + 1, by omega, by omega, by go_num, H5⟩
          case measure => simp [intOf]; omega
      · have i1 : (k : Int) < (n : Int) := by omega
        have i2 : ¬ (k : Int) < 14 := by omega
        have hS1 := same_all (H2.out.keep0 HK.out.keep)
        have HS1 := Lib.hid hS1
        clear hS1
        go_wp2_with fail
        refine HS1.out.mono ?_
        rintro e w5 ⟨rfl, hk5⟩
        have HS2 := Lib.hid (same_all (HK.out.keep0 hk5))
        have HKK := Lib.hid ((H2.out.keep.trans HK.out.keep).trans hk5)
        clear hk5
        go_wp2_with fail
        refine HS2.out.mono ?_
        rintro e w6 ⟨rfl, hk6⟩
        have HK6 := Lib.hid (HKK.out.trans hk6)
        clear hk6
        go_wp2
        go_ret
        exact ⟨rfl, HK6.out⟩
    · have i1 : ¬ (k : Int) < (n : Int) := by omega
      have hS1 := same_all (H2.out.keep0 HK.out.keep)
      have HS1 := Lib.hid hS1
      clear hS1
      go_wp2_with fail
      refine HS1.out.mono ?_
      rintro e w5 ⟨rfl, hk5⟩
      have HS2 := Lib.hid (same_all (HK.out.keep0 hk5))
      have HKK := Lib.hid ((H2.out.keep.trans HK.out.keep).trans hk5)
      clear hk5
      go_wp2_with fail
      refine HS2.out.mono ?_
      rintro e w6 ⟨rfl, hk6⟩
      have HK6 := Lib.hid (HKK.out.trans hk6)
      clear hk6
      go_wp2
      go_ret
      exact ⟨rfl, HK6.out⟩
end Go.Proofs.Ytdiginkpclbmdaa
