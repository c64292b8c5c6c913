/- The walk of play. -/
import Derived.Test.YtdiginkpclbmdaaLive
namespace Go.Proofs.Ytdiginkpclbmdaa
open Go.RowKit
attribute [local go_sem] cell_alloc_some frozen_alloc_some
/-- the slice value v holds the deeds ds -/
def Deeds (w : World) (v : Value) (ds : List Deed) : Prop :=
  (ds = [] ∧ v = .slice none 0 0) ∨ ∃ a cap, v = .slice (some a) ds.length cap ∧ ds.length ≤ maxLen ∧ ∀ i d, ds[i]? = some d → ∀ j u, (dcells d)[j]? = some u → w.cell? (a.add (i * 7 + j)) = some u
theorem Deeds.keep {w w' : World} {v : Value} {ds : List Deed} (h : Deeds w v ds) (hk : Keep none_ w w') : Deeds w' v ds := by
  rcases h with h | ⟨a, cap, hv, hl, h⟩
  · exact .inl h
  · exact .inr ⟨a, cap, hv, hl, fun i d hd j u hu => by
      have h1 := h i d hd j u hu
      exact (hk.cell (World.block_lt_of_cell? w _ h1) id).trans h1⟩
theorem add_at (a : Addr) (n j : Nat) (hj : j ≠ 0) : a.add (n + j) = ⟨(a.add n).block, (a.add n).off + j, none⟩ := by
  unfold Addr.add
  rw [if_neg (by omega)]
  by_cases h : n = 0
  · subst h; simp
  · rw [if_neg h]; simp; omega
theorem deed_cells {W : World} {a : Addr} {k : Nat} {d : Deed} (hc : ∀ j u, (dcells d)[j]? = some u → W.cell? (a.add (k * 7 + j)) = some u) :
    W.cell? (a.add (k * 7)) = some (.int .i64 d.op) ∧ W.cell? ⟨(a.add (k * 7)).block, (a.add (k * 7)).off + 1, none⟩ = some (.int .i64 d.p) ∧ W.cell? ⟨(a.add (k * 7)).block, (a.add (k * 7)).off + 2, none⟩ = some (.int .i64 d.q) ∧
      W.cell? ⟨(a.add (k * 7)).block, (a.add (k * 7)).off + 3, none⟩ = some (.int .i64 d.k) ∧ W.cell? ⟨(a.add (k * 7)).block, (a.add (k * 7)).off + 4, none⟩ = some (.int .u8 d.o.kind) ∧
      W.cell? ⟨(a.add (k * 7)).block, (a.add (k * 7)).off + 5, none⟩ = some (.int .i64 d.o.ref) ∧ W.cell? ⟨(a.add (k * 7)).block, (a.add (k * 7)).off + 6, none⟩ = some (.int .i64 d.o.pos) := by
  refine ⟨hc 0 _ rfl, ?_, ?_, ?_, ?_, ?_, ?_⟩
  · rw [← add_at _ _ 1 (by decide)]; exact hc 1 _ rfl
  · rw [← add_at _ _ 2 (by decide)]; exact hc 2 _ rfl
  · rw [← add_at _ _ 3 (by decide)]; exact hc 3 _ rfl
  · rw [← add_at _ _ 4 (by decide)]; exact hc 4 _ rfl
  · rw [← add_at _ _ 5 (by decide)]; exact hc 5 _ rfl
  · rw [← add_at _ _ 6 (by decide)]; exact hc 6 _ rfl
def runS (S : St) (ds : List Deed) : Nat → St
  | 0 => S
  | k + 1 => doS (runS S ds k) (ds.getD k ⟨7, 0, 0, 0, ⟨0, 0, 0⟩⟩)
theorem run_all (S : St) (ds : List Deed) : ∀ k, (runS S ds k).all.length ≤ S.all.length + k
  | 0 => Nat.le_refl _
  | k + 1 => by have := run_all S ds k; have := all_do (runS S ds k) (ds.getD k ⟨7, 0, 0, 0, ⟨0, 0, 0⟩⟩); unfold runS; omega
def zeroD : Deed := ⟨0, 0, 0, 0, ⟨0, 0, 0⟩⟩
def P0 : St := doS St.init zeroD
def playS (ds : List Deed) : St := runS P0 ds (min ds.length 50)
theorem Two.new {a w1 : World} {T : Nat} (h : One a w1 T St.init none_) : Calls Try.prog 32 #[] w1 fun e w2 => ∃ R, e = .returned (.pointer (some ⟨R, 0, none⟩)) ∧ Two a w2 T R St.init St.init none_ := by
  obtain ⟨FT, h1, h4, h6⟩ := h
  refine (rnew_any w1).mono ?_
  rintro e w2 ⟨R, rfl, hr, hk, hs⟩
  have := h6.size
  refine ⟨R, rfl, FT, _, h1.keep0 hk, ⟨_, hr⟩, fun b hb hc => ?_, fun b hb => ⟨Nat.lt_of_lt_of_le (h4 b hb).1 hk.size, (h4 b hb).2⟩, fun b hb => by omega, .inr (by have := hr.footR; omega), h6.trans (hk.mono fun _ => False.elim)⟩
  have := (h4 b hb).1
  omega
set_option maxRecDepth 100000 in
set_option maxHeartbeats 1000000 in
theorem play_any (w : World) (v : Value) (ds : List Deed) (hd : Deeds w v ds) :
    Calls Try.prog 17 #[v] w fun e w' => ∃ T R, e = .returned (.tuple #[.pointer (some ⟨T, 0, none⟩), .pointer (some ⟨R, 0, none⟩), .bool true]) ∧ Two w w' T R (playS ds) (playS ds) none_ := by
  have H0 := Lib.hid (One.new w (Keep.refl none_ w))
  have HD := Lib.hid hd
  obtain ⟨A, n, cap, rfl, hn, hn63⟩ : ∃ A n cap, v = .slice A n cap ∧ n = ds.length ∧ n ≤ 9223372036854775807 := by
    rcases hd with ⟨rfl, rfl⟩ | ⟨a, cap, rfl, hl, _⟩
    · exact ⟨none, 0, 0, rfl, rfl, by omega⟩
    · exact ⟨_, _, cap, rfl, rfl, by unfold maxLen at hl; omega⟩
  have HN := Lib.hid hn
  clear hd hn
  go_enter Try.func17, Try.ntmps17
  go_wp2_with fail
  refine H0.out.mono ?_
  rintro e w1 ⟨T, rfl, h1⟩
  have H1 := Lib.hid (Two.new h1)
  clear h1
  go_wp2_with fail
  refine H1.out.mono ?_
  rintro e w2 ⟨R, rfl, h2⟩
  have h3 := do_any h2 (Nat.zero_le _) zeroD
  rw [show doS St.init zeroD = P0 from rfl] at h3
  replace h3 := Lib.hid h3
  clear h2
  go_wp2_with fail
  refine h3.out.mono ?_
  rintro e w3 ⟨rfl, h4⟩
  have H4 := Lib.hid h4
  clear h4 H0 H1 h3
  go_wp2
  go_loopw [7] (fun x wr => ∃ k : Nat, k ≤ n ∧ k ≤ 50 ∧ x = .int .i64 k ∧ Hid (Two w wr T R (runS P0 ds k) (runS P0 ds k) none_)) (fun x _ => 50 - (intOf x).toNat)
  case atStart => exact ⟨0, by omega, by omega, rfl, H4⟩
  case round =>
    obtain ⟨k, hk, hk50, rfl, HK⟩ := hrel
    have hle : (runS P0 ds k).all.length ≤ 1000 := by have h1 := run_all P0 ds k; have h2 := all_do St.init zeroD; have h3 : St.init.all.length = 0 := rfl; unfold P0 at *; omega
    by_cases hkn : k < n
    · by_cases hk2 : k < 50
      · have i0 : (0 : Int) ≤ (k : Int) := by omega
        have i1 : (k : Int) < (n : Int) := by omega
        have i2 : (k : Int) < 50 := by omega
        have hds := HD.out.keep HK.out.keep
        obtain ⟨d, hdk⟩ : ∃ d, ds[k]? = some d := ⟨_, List.getElem?_eq_getElem (by have := HN.out; omega)⟩
        rcases hds with ⟨h0, _⟩ | ⟨a, cap', he, _, hc⟩
        · rw [h0] at hdk; simp at hdk
        · injection he with e1 e2 e3
          subst e1
          obtain ⟨c0, c1, c2, c3, c4, c5, c6⟩ := deed_cells (hc k d hdk)
          have hdo := do_any HK.out hle d
          have hrun : doS (runS P0 ds k) d = runS P0 ds (k + 1) := by show _ = doS (runS P0 ds k) (ds.getD k _); rw [List.getD_eq_getElem?_getD, hdk]; rfl
          rw [hrun] at hdo
          replace hdo := Lib.hid hdo
          have HL := Lib.hid i1
          clear hc e2 e3 hdk hrun hle
          unfold dcells at hdo
          go_wp2_with fail
          refine hdo.out.mono ?_
          rintro e w4 ⟨rfl, h5⟩
          have H5 := Lib.hid h5
          clear h5 c0 c1 c2 c3 c4 c5 c6
          go_wp2
          go_roundw
          case rel => exact ⟨k + 1, by omega, by omega, by go_num, H5⟩
          case measure => simp [intOf]; omega
      · have i1 : (k : Int) < (n : Int) := by omega
        have i2 : ¬ (k : Int) < 50 := by omega
        have hp : playS ds = runS P0 ds k := by unfold playS; rw [show min ds.length 50 = k by have := HN.out; omega]
        have HF : Hid (Two w wr T R (playS ds) (playS ds) none_) := by rw [hp]; exact HK.out
        clear hp
        go_wp2
        go_ret3
        exact ⟨T, R, rfl, HF.out⟩
    · have i1 : ¬ (k : Int) < (n : Int) := by omega
      have hp : playS ds = runS P0 ds k := by unfold playS; rw [show min ds.length 50 = k by have := HN.out; omega]
      have HF : Hid (Two w wr T R (playS ds) (playS ds) none_) := by rw [hp]; exact HK.out
      clear hp
      go_wp2
      go_ret3
      exact ⟨T, R, rfl, HF.out⟩
end Go.Proofs.Ytdiginkpclbmdaa
