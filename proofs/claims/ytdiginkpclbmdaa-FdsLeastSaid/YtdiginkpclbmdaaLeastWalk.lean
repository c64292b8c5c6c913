/- The law FdsLeast: as plain data, and its walk. -/
import Derived.Test.YtdiginkpclbmdaaSharedWalk
namespace Go.Proofs.Ytdiginkpclbmdaa
open Go.RowKit
attribute [local go_sem] cell_alloc_some frozen_alloc_some
/-- the least that is not in what a process has -/
def wantN (S : St) (p : Int) : Nat := if mayE S p = 5 then 0 else S.free p.toNat
theorem listN_low (S : St) (p : Nat) : ∀ k, k ≤ S.free p → listN S p k = List.range k
  | 0, _ => rfl
  | k + 1, h => by rw [listN_succ, listN_low S p k (by omega), if_neg (S.free_ne p (by omega)), List.range_succ]
theorem listN_split (S : St) (p : Nat) (d : Nat) : listN S p (S.free p + d) = List.range (S.free p) ++ (List.range' (S.free p) d).filter (fun j => S.fd p j != 0) := by
  have h := listN_low S p (S.free p) (Nat.le_refl _)
  unfold listN at h ⊢
  rw [List.range_eq_range', ← List.range'_append_1, List.filter_append, ← List.range_eq_range', Nat.zero_add, h]
theorem list_want (S : St) (p : Int) : (∀ i, i < wantN S p → (listE S p)[i]? = some i) ∧ (listE S p)[wantN S p]? ≠ some (wantN S p) := by
  unfold wantN listE
  by_cases hm : mayE S p = 5
  · rw [if_pos hm, if_pos hm]; simp
  · rw [if_neg hm, if_neg hm]
    obtain ⟨d, hd⟩ : ∃ d, 8 = S.free p.toNat + d := ⟨8 - S.free p.toNat, by have := S.free_le p.toNat; omega⟩
    have hs := listN_split S p.toNat d
    rw [← hd] at hs
    rw [hs]
    refine ⟨fun i hi => ?_, fun h => ?_⟩
    · rw [List.getElem?_append_left (by simpa using hi), List.getElem?_range hi]
    · rw [List.getElem?_append_right (by simp)] at h
      have hmem := List.mem_of_getElem? h
      rw [List.mem_filter] at hmem
      have hr := hmem.1
      rw [List.mem_range'_1] at hr
      have hz := S.free_zero p.toNat (by omega)
      simp [hz] at hmem
theorem room_full (S : St) (p : Nat) (h : ¬ S.free p < 8) : (listN S p 8).length = 8 := by
  have := listN_low S p 8 (by omega)
  rw [this]; simp
theorem room_give (S : St) (p n : Nat) (hf : S.free p < 8) (hn : n ≠ 0) : (listN (S.give p n) p 8).length = (listN S p 8).length + 1 := by
  have e : ∀ T : St, (listN T p 8).length = cntB (fun j => T.fd p j != 0) 8 := fun T => by
    have : ∀ k, (listN T p k).length = cntB (fun j => T.fd p j != 0) k := by
      intro k
      induction k with
      | zero => rfl
      | succ k ih =>
        rw [listN_succ, List.length_append, ih]
        show _ = _ + _
        by_cases h : T.fd p k = 0 <;> simp [h]
    exact this 8
  rw [e, e]
  have h := cntB_upd (f := fun j => S.fd p j != 0) (g := fun j => (S.give p n).fd p j != 0) (i := S.free p) 8 hf (fun j hj hne => by
    show (setFd S.fd p (S.free p) n p j != 0) = _
    rw [setFd_other]; rintro ⟨_, h⟩; exact hne h)
  have hz := S.free_zero p hf
  have hg : (S.give p n).fd p (S.free p) = n := setFd_same _ _ _ _
  simp only [hz, hg] at h
  simp [hn] at h
  omega
theorem least_plain (S : St) (p : Int) (o : Op3) :
    (openE S p o = (0, 5) ∧ roomE S p = 0) ∨ openE S p o = (0, 2) ∨ (openE S p o = (0, 11) ∧ roomE S p = 0 ∧ (listE S p).length = 8) ∨
    (openE S p o = ((wantN S p : Int), 0) ∧ getE (openS S p o) p (wantN S p) = o ∧ atE (openS S p o) p (wantN S p) = 0 ∧ roomE (openS S p o) p = roomE S p - 1) := by
  rcases mayE_cases S p with ⟨hm, _⟩ | ⟨hm, q, rfl, hq, hh⟩
  · exact .inl ⟨by unfold openE; rw [if_pos hm], by unfold roomE; rw [if_pos hm]⟩
  · have hm5 : ¬ mayE S q = 5 := by rw [hm]; decide
    by_cases hk : badKind o = true
    · exact .inr (.inl (by unfold openE; rw [if_neg hm5, if_pos hk]))
    · by_cases hf : S.free q < 8
      · have hw : wantN S q = S.free q := by unfold wantN; rw [if_neg hm5]; rfl
        have he : openE S q o = ((S.free q : Int), 0) := by unfold openE; rw [if_neg hm5, if_neg hk]; exact if_pos hf
        have hs : openS S q o = (S.push o).give q (S.all.length + 1) := by unfold openS; rw [he]; rfl
        have hfr : (S.push o).free q = S.free q := free_fd _ _ q rfl 8 0
        have hfd : ((S.push o).give q (S.all.length + 1)).fd q (S.free q) = S.all.length + 1 := by
          show setFd S.fd q ((S.push o).free q) _ q (S.free q) = _
          rw [hfr, setFd_same]
        have hm' : mayE ((S.push o).give q (S.all.length + 1)) q = 0 := hm
        have hat : atE ((S.push o).give q (S.all.length + 1)) q (S.free q) = 0 := by
          unfold atE
          rw [if_neg (by rw [hm']; decide), if_neg]
          simp only [Int.toNat_natCast, hfd]
          omega
        refine .inr (.inr (.inr ⟨by rw [he, hw], ?_, by rw [hs, hw]; exact hat, ?_⟩))
        · rw [hs, hw]
          unfold getE
          rw [if_pos hat]
          simp only [Int.toNat_natCast, hfd]
          simp [St.what, St.give, St.push]
        · rw [hs]
          unfold roomE
          rw [if_neg (by rw [hm']; decide), if_neg hm5]
          have := room_give (S.push o) q (S.all.length + 1) (by rw [hfr]; exact hf) (by omega)
          simp only [Int.toNat_natCast]
          rw [this]
          have : listN (S.push o) q 8 = listN S q 8 := rfl
          rw [this]
          omega
      · have he : openE S q o = (0, 11) := by unfold openE; rw [if_neg hm5, if_neg hk]; exact if_neg hf
        have hl := room_full S q hf
        refine .inr (.inr (.inl ⟨he, ?_, ?_⟩))
        · unfold roomE; rw [if_neg hm5]; simp only [Int.toNat_natCast]; rw [hl]; rfl
        · unfold listE; rw [if_neg hm5]; exact hl
set_option maxRecDepth 100000 in
set_option maxHeartbeats 2000000 in
theorem least_all (w : World) (v : Value) (ds : List Deed) (hd : Deeds w v ds) (z : Int) (h0 : 0 ≤ z) (h1 : z < 256) (o : Op3) :
    Calls Try.prog 5 #[v, .int .u8 z, .agg #[.int .u8 o.kind, .int .i64 o.ref, .int .i64 o.pos]] w fun e w' => e = .returned (.bool true) ∧ Keep none_ w w' := by
  have hk0 : Keep none_ w (w.alloc (.cells #[.int .u8 o.kind, .int .i64 o.ref, .int .i64 o.pos] 30)) := (Keep.refl _ w).alloc _
  have H0 := Lib.hid (play_any _ v ds (hd.keep hk0))
  have HB := Lib.hid (Blk.new w 30 (opc o))
  have HK0 := Lib.hid hk0
  clear hd hk0
  go_enter Try.func5, Try.ntmps5
  go_wp2_with fail
  refine Calls.mono (by exact H0.out) ?_
  rintro e w1 ⟨T, R, rfl, h2⟩
  have H1 := Lib.hid h2.one
  have HL := Lib.hid (live_any w1)
  clear h2 H0
  go_wp2_with fail
  refine HL.out.mono ?_
  rintro e w2 ⟨rfl, hk2⟩
  have HT := Lib.hid (H1.out.keep0 hk2)
  clear H1 HL hk2
  generalize playS ds = S at *
  have HLI := Lib.hid (HT.out.list (z % 6))
  go_wp2_with fail
  generalize z % 6 = p at *
  refine HLI.out.mono ?_
  rintro e w3 ⟨⟨va, rfl, A, cap, rfl, hA⟩, hk3⟩
  have HT3 := Lib.hid (HT.out.keep0 hk3)
  have hlw := list_want S p
  have hlen := listE_len S p
  obtain ⟨rm, hrm⟩ : ∃ rm, rm = roomE S p := ⟨_, rfl⟩
  have hrm0 : 0 ≤ rm ∧ rm ≤ 8 := by
    rw [hrm]; unfold roomE; split
    · omega
    · have := listN_le S p.toNat 8; omega
  obtain ⟨hrm0, hrm8⟩ := hrm0
  obtain ⟨wt, hwt⟩ : ∃ wt, wt = wantN S p := ⟨_, rfl⟩
  obtain ⟨oe, hoe⟩ : ∃ oe, oe = openE S p o := ⟨_, rfl⟩
  have hp := least_plain S p o
  have HR := HT3.out.room p
  rw [← hrm] at HR hp
  rw [← hwt] at hlw hp
  rw [← hoe] at hp
  generalize listE S p = L at *
  obtain ⟨n, hn⟩ : ∃ n, n = L.length := ⟨_, rfl⟩
  have hwn : wt ≤ n := by
    rcases Nat.lt_or_ge n wt with h | h
    · have := hlw.1 n h; rw [List.getElem?_eq_none (by omega)] at this; cases this
    · exact h
  rw [← hn] at hA hp hlen ⊢
  have HRR := Lib.hid HR
  have HP := Lib.hid hp
  have HLW := Lib.hid hlw
  have HN := Lib.hid hn
  have HOE := Lib.hid hoe
  have HAA := Lib.hid hA
  clear hlw hrm hwt hoe hp HR hn hA hk3 HLI HT
  go_wp2
  go_loopw [12] (fun x wr => ∃ k : Nat, k ≤ wt ∧ x = .int .i64 k ∧ Hid (wr = w3)) (fun x _ => 9 - (intOf x).toNat)
  case atStart => exact ⟨0, by omega, rfl, rfl⟩
  case round =>
    obtain ⟨k, hk, rfl, HW⟩ := hrel
    obtain rfl : wr = w3 := HW.out
    clear HW
    by_cases hkn : k < n
    · have i0 : (0 : Int) ≤ (k : Int) := by omega
      have i1 : (k : Int) < (n : Int) := by omega
      obtain ⟨x, hx⟩ : ∃ x, L[k]? = some x := ⟨_, List.getElem?_eq_getElem (by have := HN.out; omega)⟩
      rcases HAA.out with ⟨_, h0⟩ | ⟨g, rfl, hc⟩
      · omega
      · have hck := hc k _ (by unfold ints; rw [List.getElem?_map, hx]; rfl)
        clear hc
        by_cases hkw : k < wt
        · have hxk : x = k := by have := HLW.out.1 k hkw; rw [hx] at this; simpa using this
          subst hxk
          clear hx
          go_wp2
          go_roundw
          case rel => exact ⟨x + 1, by omega, by go_num, by first | rfl | exact trivial⟩
          case measure => simp [intOf]; omega
        · have hkw2 : k = wt := by omega
          have hne : ((x : Int) == (k : Int)) = false := by
            have := HLW.out.2
            rw [← hkw2, hx] at this
            simp at this
            simp
            omega
          clear hx
          have HKW := Lib.hid hkw2
          clear hkw2
          go_wp2_with fail
          refine Calls.mono (by exact HRR.out) ?_
          rintro e w4 ⟨rfl, hk4⟩
          have hT4 := HT3.out.keep0 hk4
          have hb := HB.out.keep hT4.keep id
          have b0 := hb.cell_of (i := 0) rfl
          have b1 := hb.cell_of (i := 1) rfl
          have b2 := hb.cell_of (i := 2) rfl
          have ho := hT4.open_ p o
          rw [← HOE.out] at ho
          unfold opv at ho
          have HO := Lib.hid ho
          clear ho hT4 hb hk4
          go_wp2_with fail
          refine Calls.mono (by exact HO.out) ?_
          rintro e w5 ⟨rfl, h5⟩
          have hb := HB.out.keep h5.keep id
          have b0 := hb.cell_of (i := 0) rfl
          have b1 := hb.cell_of (i := 1) rfl
          have b2 := hb.cell_of (i := 2) rfl
          have HF5 := Lib.hid (HK0.out.trans h5.keep)
          rcases HP.out with ⟨e1, e2⟩ | e1 | ⟨e1, e2, e3⟩ | ⟨e1, e2, e3, e4⟩
          · subst e1
            clear h5 hb b0 b1 b2
            go_wp2
            go_ret
            exact ⟨by simp, HF5.out⟩
          · subst e1
            clear h5 hb b0 b1 b2
            go_wp2
            go_ret
            exact ⟨by simp, HF5.out⟩
          · subst e1
            clear h5 hb b0 b1 b2
            go_wp2
            go_ret
            exact ⟨by simp, HF5.out⟩
          · subst e1
            have hg := h5.get p wt
            rw [e2, e3] at hg
            unfold opv at hg
            have HG := Lib.hid hg
            have HT5 := Lib.hid h5
            have HE4 := Lib.hid e4
            have HBB := Lib.hid hb
            clear h5 hb b0 b1 b2 hg e2 e3 e4
            go_wp2_with fail
            refine Calls.mono (by exact HG.out) ?_
            rintro e w6 ⟨rfl, hk6⟩
            have h6 := (HT5.out.keep0 hk6).keep0 ((Keep.refl _ w6).alloc (.cells (opc o).toArray 30))
            have hb := HBB.out.keep hk6 id
            have b0 := hb.cell_of (i := 0) rfl
            have b1 := hb.cell_of (i := 1) rfl
            have b2 := hb.cell_of (i := 2) rfl
            have hr := h6.room p
            rw [HE4.out] at hr
            have HR6 := Lib.hid hr
            have HF6 := Lib.hid (HK0.out.trans h6.keep)
            clear hb hr hk6 h6 HG
            go_wp2_with fail
            refine Calls.mono (by exact HR6.out) ?_
            rintro e w7 ⟨rfl, hk7⟩
            have HF7 := Lib.hid (HF6.out.trans hk7)
            clear hk7 HR6 HF6 b0 b1 b2
            go_wp2
            go_ret
            exact ⟨by simp [HKW.out], HF7.out⟩
    · have i1 : ¬ (k : Int) < (n : Int) := by omega
      have hkw2 : k = wt := by omega
      have HKW := Lib.hid hkw2
      clear hkw2
      go_wp2_with fail
      refine Calls.mono (by exact HRR.out) ?_
      rintro e w4 ⟨rfl, hk4⟩
      have hT4 := HT3.out.keep0 hk4
      have hb := HB.out.keep hT4.keep id
      have b0 := hb.cell_of (i := 0) rfl
      have b1 := hb.cell_of (i := 1) rfl
      have b2 := hb.cell_of (i := 2) rfl
      have ho := hT4.open_ p o
      rw [← HOE.out] at ho
      unfold opv at ho
      have HO := Lib.hid ho
      clear ho hT4 hb hk4
      go_wp2_with fail
      refine Calls.mono (by exact HO.out) ?_
      rintro e w5 ⟨rfl, h5⟩
      have hb := HB.out.keep h5.keep id
      have b0 := hb.cell_of (i := 0) rfl
      have b1 := hb.cell_of (i := 1) rfl
      have b2 := hb.cell_of (i := 2) rfl
      have HF5 := Lib.hid (HK0.out.trans h5.keep)
      rcases HP.out with ⟨e1, e2⟩ | e1 | ⟨e1, e2, e3⟩ | ⟨e1, e2, e3, e4⟩
      · subst e1
        clear h5 hb b0 b1 b2
        go_wp2
        go_ret
        exact ⟨by simp, HF5.out⟩
      · subst e1
        clear h5 hb b0 b1 b2
        go_wp2
        go_ret
        exact ⟨by simp, HF5.out⟩
      · subst e1
        clear h5 hb b0 b1 b2
        go_wp2
        go_ret
        exact ⟨by simp, HF5.out⟩
      · subst e1
        have hg := h5.get p wt
        rw [e2, e3] at hg
        unfold opv at hg
        have HG := Lib.hid hg
        have HT5 := Lib.hid h5
        have HE4 := Lib.hid e4
        have HBB := Lib.hid hb
        clear h5 hb b0 b1 b2 hg e2 e3 e4
        go_wp2_with fail
        refine Calls.mono (by exact HG.out) ?_
        rintro e w6 ⟨rfl, hk6⟩
        have h6 := (HT5.out.keep0 hk6).keep0 ((Keep.refl _ w6).alloc (.cells (opc o).toArray 30))
        have hb := HBB.out.keep hk6 id
        have b0 := hb.cell_of (i := 0) rfl
        have b1 := hb.cell_of (i := 1) rfl
        have b2 := hb.cell_of (i := 2) rfl
        have hr := h6.room p
        rw [HE4.out] at hr
        have HR6 := Lib.hid hr
        have HF6 := Lib.hid (HK0.out.trans h6.keep)
        clear hb hr hk6 h6 HG
        go_wp2_with fail
        refine Calls.mono (by exact HR6.out) ?_
        rintro e w7 ⟨rfl, hk7⟩
        have HF7 := Lib.hid (HF6.out.trans hk7)
        clear hk7 HR6 HF6 b0 b1 b2
        go_wp2
        go_ret
        exact ⟨by simp [HKW.out], HF7.out⟩
end Go.Proofs.Ytdiginkpclbmdaa
