/- The walk of same. -/
import Derived.Test.YtdiginkpclbmdaaPlay
namespace Go.Proofs.Ytdiginkpclbmdaa
open Go.RowKit
attribute [local go_sem] cell_alloc_some frozen_alloc_some
section
variable {a w : World} {T R : Nat} {S S2 : St} {G : Nat → Prop}
theorem Two.listT (h : Two a w T R S S2 G) (p : Int) : Calls Try.prog 21 #[.pointer (some ⟨T, 0, none⟩), .int .i64 p] w fun e w' => (∃ v, e = .returned v ∧ Ints w' v (listE S p)) ∧ Keep none_ w w' :=
  h.readT (Q := fun e w' => ∃ v, e = .returned v ∧ Ints w' v (listE S p)) (fun _ _ _ h => by
    refine (list_any h p).mono ?_
    rintro e w' ⟨⟨v, rfl, ho⟩, hb⟩
    exact ⟨⟨v, rfl, ownsRow_slc ho⟩, Keep.of_below hb⟩)
theorem Two.listR (h : Two a w T R S S2 G) (p : Int) : Calls Try.prog 34 #[.pointer (some ⟨R, 0, none⟩), .int .i64 p] w fun e w' => (∃ v, e = .returned v ∧ Ints w' v (listE S2 p)) ∧ Keep none_ w w' :=
  h.readR (Q := fun e w' => ∃ v, e = .returned v ∧ Ints w' v (listE S2 p)) (fun _ _ h => by
    refine (rlist_any h p).mono ?_
    rintro e w' ⟨⟨v, rfl, ho⟩, hb⟩
    exact ⟨⟨v, rfl, ownsRow_slc ho⟩, Keep.of_below hb⟩)
theorem Two.roomT (h : Two a w T R S S2 G) (p : Int) : Calls Try.prog 22 #[.pointer (some ⟨T, 0, none⟩), .int .i64 p] w fun e w' => e = .returned (.int .i64 (roomE S p)) ∧ Keep none_ w w' :=
  h.readT (fun _ _ _ h => (room_any h p).mono fun _ _ ⟨h1, h2⟩ => ⟨h1, Keep.of_below h2⟩)
theorem Two.roomR (h : Two a w T R S S2 G) (p : Int) : Calls Try.prog 35 #[.pointer (some ⟨R, 0, none⟩), .int .i64 p] w fun e w' => e = .returned (.int .i64 (roomE S2 p)) ∧ Keep none_ w w' :=
  h.readR (fun _ _ h => (rroom_any h p).mono fun _ _ ⟨h1, h2⟩ => ⟨h1, Keep.of_below h2⟩)
theorem Two.getT (h : Two a w T R S S2 G) (p k : Int) : Calls Try.prog 18 #[.pointer (some ⟨T, 0, none⟩), .int .i64 p, .int .i64 k] w fun e w' => e = .returned (.tuple #[opv (getE S p k), .int .i64 (atE S p k)]) ∧ Keep none_ w w' :=
  h.readT (fun _ _ _ h => get_any h p k)
theorem Two.getR (h : Two a w T R S S2 G) (p k : Int) : Calls Try.prog 36 #[.pointer (some ⟨R, 0, none⟩), .int .i64 p, .int .i64 k] w fun e w' => e = .returned (.tuple #[opv (getE S2 p k), .int .i64 (atE S2 p k)]) ∧ Keep none_ w w' :=
  h.readR (fun _ _ h => rget_any h p k)
theorem Two.sameT (h : Two a w T R S S2 G) (p k q j : Int) : Calls Try.prog 19 #[.pointer (some ⟨T, 0, none⟩), .int .i64 p, .int .i64 k, .int .i64 q, .int .i64 j] w fun e w' => e = .returned (.bool (sameE S p k q j)) ∧ Keep none_ w w' :=
  h.readT (fun _ _ _ h => same_any h p k q j)
theorem Two.sameR (h : Two a w T R S S2 G) (p k q j : Int) : Calls Try.prog 37 #[.pointer (some ⟨R, 0, none⟩), .int .i64 p, .int .i64 k, .int .i64 q, .int .i64 j] w fun e w' => e = .returned (.bool (sameE S2 p k q j)) ∧ Keep none_ w w' :=
  h.readR (fun _ _ h => rsame_any h p k q j)
theorem listE_len (S : St) (p : Int) : (listE S p).length ≤ 8 := by unfold listE; split; simp; exact listN_le S _ 8
set_option maxRecDepth 100000 in
set_option maxHeartbeats 1000000 in
theorem same_all (h : Two a w T R S S G) :
    Calls Try.prog 23 #[.pointer (some ⟨T, 0, none⟩), .pointer (some ⟨R, 0, none⟩)] w fun e w' => e = .returned (.bool true) ∧ Keep none_ w w' := by
  have HH := Lib.hid h
  clear h
  go_enter Try.func23, Try.ntmps23
  go_wp2
  go_loopw [5] (fun x wr => ∃ p : Int, -1 ≤ p ∧ p ≤ 7 ∧ x = .int .i64 p ∧ Hid (Keep none_ w wr)) (fun x _ => (7 - intOf x).toNat)
  case atStart => exact ⟨-1, by omega, by omega, rfl, Keep.refl _ _⟩
  case round =>
    obtain ⟨p, hp0, hp7, rfl, HK⟩ := hrel
    by_cases h6 : p ≤ 6
    · have HT := Lib.hid (HH.out.keep0 HK.out)
      have HA := Lib.hid (HT.out.listT p)
      go_wp2_with fail
      refine HA.out.mono ?_
      rintro e w1 ⟨⟨va, rfl, hva⟩, hk1⟩
      have HT1 := Lib.hid (HT.out.keep0 hk1)
      have HB := Lib.hid (HT1.out.listR p)
      have HVA := Lib.hid hva
      have HK1 := Lib.hid (HK.out.trans hk1)
      clear hk1 hva HA HT HK
      go_wp2_with fail
      refine HB.out.mono ?_
      rintro e w2 ⟨⟨vb, rfl, hvb⟩, hk2⟩
      have HT2 := Lib.hid (HT1.out.keep0 hk2)
      have hs := sameInts_any w2 va vb _ _ (HVA.out.keep0 hk2) hvb (Nat.le_trans (listE_len S p) (by decide))
      rw [decide_eq_true rfl] at hs
      have HS := Lib.hid hs
      have HK2 := Lib.hid (HK1.out.trans hk2)
      clear hk2 hvb hs HVA HB HT1 HK1
      go_wp2_with fail
      refine HS.out.mono ?_
      rintro e w3 ⟨rfl, n, hn⟩
      have HT3 : Hid (Two a w3 T R S S G) := by rw [hn]; exact HT2.out.keep0 (Keep.ofDrew _ _)
      have HK3 : Hid (Keep none_ w w3) := by rw [hn]; exact HK2.out.drewN _
      obtain ⟨rm, hrm⟩ : ∃ rm, rm = roomE S p := ⟨_, rfl⟩
      have hra := HT3.out.roomT p
      rw [← hrm] at hra
      have HRA := Lib.hid hra
      have HRM := Lib.hid hrm
      clear HT2 HK2 HS hn hra hrm
      go_wp2_with fail
      refine HRA.out.mono ?_
      rintro e w4 ⟨rfl, hk4⟩
      have HT4 := Lib.hid (HT3.out.keep0 hk4)
      have HK4 := Lib.hid (HK3.out.trans hk4)
      have hrb := HT4.out.roomR p
      rw [← HRM.out] at hrb
      have HRB := Lib.hid hrb
      clear hrb hk4 HT3 HK3 HRA
      go_wp2_with fail
      refine HRB.out.mono ?_
      rintro e w5 ⟨rfl, hk5⟩
      have HT5 := Lib.hid (HT4.out.keep0 hk5)
      have HK5 := Lib.hid (HK4.out.trans hk5)
      clear hk5 HT4 HK4 HRB HRM
      go_wp2
      go_loopw [6] (fun x wr => ∃ k : Int, -1 ≤ k ∧ k ≤ 9 ∧ x = .int .i64 k ∧ Hid (Keep none_ w5 wr)) (fun x _ => (9 - intOf x).toNat)
      case atStart => exact ⟨-1, by omega, by omega, rfl, Keep.refl _ _⟩
      case round =>
        obtain ⟨k, hk0, hk9, rfl, HL⟩ := hrel
        by_cases h8 : k ≤ 8
        · have HI := Lib.hid (HT5.out.keep0 HL.out)
          have HJ := Lib.hid (HK5.out.trans HL.out)
          obtain ⟨ob, hob⟩ : ∃ ob, ob = getE S p k := ⟨_, rfl⟩
          obtain ⟨er, her⟩ : ∃ er, er = atE S p k := ⟨_, rfl⟩
          have hg := HI.out.getT p k
          rw [← hob, ← her] at hg
          have HG := Lib.hid hg
          have HOB := Lib.hid hob
          have HER := Lib.hid her
          clear hg hob her
          unfold opv at HG
          go_wp2_with fail
          refine HG.out.mono ?_
          rintro e w6 ⟨rfl, hk6⟩
          have HI6 := Lib.hid ((HI.out.keep0 hk6).keep0 ((Keep.refl _ w6).alloc (.cells (opc ob).toArray 30)))
          have HJ6 := Lib.hid ((HJ.out.trans hk6).alloc (.cells (opc ob).toArray 30))
          have HL6 := Lib.hid ((HL.out.trans hk6).alloc (.cells (opc ob).toArray 30))
          have HB6 := Lib.hid (Blk.new w6 30 (opc ob))
          have hg2 := HI6.out.getR p k
          rw [← HOB.out, ← HER.out] at hg2
          have HG2 := Lib.hid hg2
          clear hg2 hk6 HG HI HJ HL HOB HER
          unfold opv at HG2
          go_wp2_with fail
          refine Calls.mono (by exact HG2.out) ?_
          rintro e w7 ⟨rfl, hk7⟩
          have hb7 := HB6.out.keep hk7 id
          have b0 := hb7.cell_of (i := 0) rfl
          have b1 := hb7.cell_of (i := 1) rfl
          have b2 := hb7.cell_of (i := 2) rfl
          have HI7 := Lib.hid ((HI6.out.keep0 hk7).keep0 ((Keep.refl _ w7).alloc (.cells (opc ob).toArray 30)))
          have HJ7 := Lib.hid ((HJ6.out.trans hk7).alloc (.cells (opc ob).toArray 30))
          have HL7 := Lib.hid ((HL6.out.trans hk7).alloc (.cells (opc ob).toArray 30))
          obtain ⟨s1, hs1⟩ : ∃ x, x = sameE S p k 0 0 := ⟨_, rfl⟩
          obtain ⟨s2, hs2⟩ : ∃ x, x = sameE S 0 1 p k := ⟨_, rfl⟩
          have HS1 := Lib.hid hs1
          have HS2 := Lib.hid hs2
          have hx := HI7.out.sameT p k 0 0
          rw [← hs1] at hx
          have HX := Lib.hid hx
          clear hb7 hk7 HI6 HJ6 HL6 HB6 HG2 hs1 hs2 hx
          go_wp2_with fail
          refine Calls.mono (by exact HX.out) ?_
          rintro e w8 ⟨rfl, hk8⟩
          have HI8 := Lib.hid (HI7.out.keep0 hk8)
          have HJ8 := Lib.hid (HJ7.out.trans hk8)
          have HL8 := Lib.hid (HL7.out.trans hk8)
          have hx := HI8.out.sameR p k 0 0
          rw [← HS1.out] at hx
          have HX8 := Lib.hid hx
          clear hk8 HI7 HJ7 HL7 HX hx b0 b1 b2
          go_wp2_with fail
          refine Calls.mono (by exact HX8.out) ?_
          rintro e w9 ⟨rfl, hk9⟩
          have HI9 := Lib.hid (HI8.out.keep0 hk9)
          have HJ9 := Lib.hid (HJ8.out.trans hk9)
          have HL9 := Lib.hid (HL8.out.trans hk9)
          have hx := HI9.out.sameT 0 1 p k
          rw [← HS2.out] at hx
          have HX9 := Lib.hid hx
          clear hk9 HI8 HJ8 HL8 HX8 hx HS1
          go_wp2_with fail
          refine Calls.mono (by exact HX9.out) ?_
          rintro e wa ⟨rfl, hka⟩
          have HIa := Lib.hid (HI9.out.keep0 hka)
          have HJa := Lib.hid (HJ9.out.trans hka)
          have HLa := Lib.hid (HL9.out.trans hka)
          have hx := HIa.out.sameR 0 1 p k
          rw [← HS2.out] at hx
          have HXa := Lib.hid hx
          clear hka HI9 HJ9 HL9 HX9 hx HS2
          go_wp2_with fail
          refine Calls.mono (by exact HXa.out) ?_
          rintro e wb ⟨rfl, hkb⟩
          have HJb := Lib.hid (HJa.out.trans hkb)
          have HLb := Lib.hid (HLa.out.trans hkb)
          clear hkb HIa HJa HLa HXa
          go_wp2
          go_roundw
          case rel => exact ⟨k + 1, by omega, by omega, by go_num, HLb⟩
          case measure => simp [intOf]; omega
        · go_wp2
          go_roundw
          case rel => exact ⟨p + 1, by omega, by omega, by go_num, HK5.out.trans HL.out⟩
          case measure => simp [intOf]; omega
    · go_wp2
      go_ret
      exact ⟨rfl, HK.out⟩
end
end Go.Proofs.Ytdiginkpclbmdaa
