/- The law FdsShared: as plain data, and its walk. -/
import Derived.Test.YtdiginkpclbmdaaEndsWalk
namespace Go.Proofs.Ytdiginkpclbmdaa
open Go.RowKit
attribute [local go_sem] cell_alloc_some frozen_alloc_some
theorem may_move (S : St) (p a pos q : Int) : mayE (moveS S p a pos) q = mayE S q := by
  unfold moveS; split <;> rfl
theorem at_move (S : St) (p a pos q b : Int) : atE (moveS S p a pos) q b = atE S q b := by
  unfold atE; rw [may_move]
  have : (moveS S p a pos).fd = S.fd := by unfold moveS; split <;> rfl
  rw [this]
theorem shared_plain (S : St) (hi : S.Inv) (p a q b pos : Int) :
    (atE S p a ≠ 0 ∧ sameE S p a q b = false ∧ getE (moveS S p a pos) q b = getE S q b) ∨
    (atE S p a = 0 ∧ sameE S p a q b = true ∧ getE (moveS S p a pos) q b = { getE S q b with pos := pos }) ∨
    (atE S p a = 0 ∧ sameE S p a q b = false ∧ getE (moveS S p a pos) q b = getE S q b) := by
  by_cases hf : atE S p a = 0
  · by_cases he : atE S q b = 0
    · obtain ⟨p, a, rfl, rfl, hp, ha, hh, hpa⟩ := at_ok_cases S p a hf
      obtain ⟨q, b, rfl, rfl, hq, hb, hh2, hqb⟩ := at_ok_cases S q b he
      have hm : moveS S p a pos = S.move p a pos := by unfold moveS; rw [if_pos hf]; rfl
      have h1 : getE S q b = S.what (S.fd q b) := by unfold getE; rw [if_pos he]; rfl
      have h2 : getE (moveS S p a pos) q b = (S.move p a pos).what (S.fd q b) := by unfold getE; rw [at_move, if_pos he, hm]; rfl
      have hs : sameE S p a q b = (S.fd p a == S.fd q b) := by unfold sameE; rw [hf, he]; rfl
      by_cases e : S.fd p a = S.fd q b
      · refine .inr (.inl ⟨hf, by rw [hs, e]; simp, ?_⟩)
        rw [h1, h2, ← e]
        have := hi.le p a hp ha
        unfold St.what St.move
        simp only [List.getD_eq_getElem?_getD, List.getElem?_set]
        rw [if_pos trivial, if_pos (by omega)]
        rfl
      · refine .inr (.inr ⟨hf, by rw [hs]; simpa using e, ?_⟩)
        rw [h1, h2]
        unfold St.what St.move
        simp only [List.getD_eq_getElem?_getD, List.getElem?_set]
        rw [if_neg (by omega)]
    · refine .inr (.inr ⟨hf, by unfold sameE; simp [he], ?_⟩)
      unfold getE; rw [at_move, if_neg he, if_neg he]
  · refine .inl ⟨hf, by unfold sameE; simp [hf], ?_⟩
    have : moveS S p a pos = S := by unfold moveS; rw [if_neg hf]
    rw [this]
section
variable {a w : World} {T : Nat} {S : St} {G : Nat → Prop}
theorem One.move (h : One a w T S G) (p k pos : Int) : Calls Try.prog 20 #[.pointer (some ⟨T, 0, none⟩), .int .i64 p, .int .i64 k, .int .i64 pos] w fun e w' => e = .returned (.int .i64 (atE S p k)) ∧ One a w' T (moveS S p k pos) G :=
  h.step (Q := fun e _ => e = .returned (.int .i64 (atE S p k))) (fun _ pb sb h _ => by
    refine (move_any h p k pos).mono ?_
    rintro e w' ⟨rfl, hr, hk⟩
    exact ⟨rfl, ⟨pb, sb, hr.more fun _ hb => .inl hb⟩, hk⟩)
theorem One.get (h : One a w T S G) (p k : Int) : Calls Try.prog 18 #[.pointer (some ⟨T, 0, none⟩), .int .i64 p, .int .i64 k] w fun e w' => e = .returned (.tuple #[opv (getE S p k), .int .i64 (atE S p k)]) ∧ Keep none_ w w' :=
  h.read (fun _ _ _ h => get_any h p k)
theorem One.same (h : One a w T S G) (p k q j : Int) : Calls Try.prog 19 #[.pointer (some ⟨T, 0, none⟩), .int .i64 p, .int .i64 k, .int .i64 q, .int .i64 j] w fun e w' => e = .returned (.bool (sameE S p k q j)) ∧ Keep none_ w w' :=
  h.read (fun _ _ _ h => same_any h p k q j)
theorem One.list (h : One a w T S G) (p : Int) : Calls Try.prog 21 #[.pointer (some ⟨T, 0, none⟩), .int .i64 p] w fun e w' => (∃ v, e = .returned v ∧ Ints w' v (listE S p)) ∧ Keep none_ w w' :=
  h.read (Q := fun e w' => ∃ v, e = .returned v ∧ Ints w' v (listE S p)) (fun _ _ _ h => by
    refine (list_any h p).mono ?_
    rintro e w' ⟨⟨v, rfl, ho⟩, hb⟩
    exact ⟨⟨v, rfl, ownsRow_slc ho⟩, Keep.of_below hb⟩)
theorem One.room (h : One a w T S G) (p : Int) : Calls Try.prog 22 #[.pointer (some ⟨T, 0, none⟩), .int .i64 p] w fun e w' => e = .returned (.int .i64 (roomE S p)) ∧ Keep none_ w w' :=
  h.read (fun _ _ _ h => (room_any h p).mono fun _ _ ⟨h1, h2⟩ => ⟨h1, Keep.of_below h2⟩)
end
set_option maxRecDepth 100000 in
set_option maxHeartbeats 2000000 in
theorem shared_all (w : World) (v : Value) (ds : List Deed) (hd : Deeds w v ds) (z0 z1 z2 z3 pos : Int) (h0 : 0 ≤ z0 ∧ z0 < 256) (h1 : 0 ≤ z1 ∧ z1 < 256) (h2 : 0 ≤ z2 ∧ z2 < 256) (h3 : 0 ≤ z3 ∧ z3 < 256) :
    Calls Try.prog 4 #[v, .agg #[.int .u8 z0, .int .u8 z1, .int .u8 z2, .int .u8 z3], .int .i64 pos] w fun e w' => e = .returned (.bool true) ∧ Keep none_ w w' := by
  have hk0 : Keep none_ w (w.alloc (.cells #[.int .u8 z0, .int .u8 z1, .int .u8 z2, .int .u8 z3] 43)) := (Keep.refl _ w).alloc _
  have H0 := Lib.hid (play_any _ v ds (hd.keep hk0))
  have HB := Lib.hid (Blk.new w 43 [.int .u8 z0, .int .u8 z1, .int .u8 z2, .int .u8 z3])
  have HK0 := Lib.hid hk0
  clear hd hk0
  obtain ⟨h00, h01⟩ := h0
  obtain ⟨h10, h11⟩ := h1
  obtain ⟨h20, h21⟩ := h2
  obtain ⟨h30, h31⟩ := h3
  go_enter Try.func4, Try.ntmps4
  go_wp2_with fail
  refine Calls.mono (by exact H0.out) ?_
  rintro e w1 ⟨T, R, rfl, h1⟩
  have H1 := Lib.hid h1.one
  have HL := Lib.hid (live_any w1)
  clear h1 H0
  go_wp2_with fail
  refine HL.out.mono ?_
  rintro e w2 ⟨rfl, hk2⟩
  have hT := H1.out.keep0 hk2
  have hb := HB.out.keep hT.keep id
  have b0 := hb.cell_of (i := 0) rfl
  have b1 := hb.cell_of (i := 1) rfl
  have b2 := hb.cell_of (i := 2) rfl
  have b3 := hb.cell_of (i := 3) rfl
  have HT := Lib.hid hT
  clear hT hb HB H1 HL hk2
  generalize playS ds = S at *
  go_wp2
  go_quiet (fail)
  go_wp2
  go_quiet (fail)
  generalize z0 % 6 = P at *
  generalize z1 % 6 = Q0 at *
  generalize z2 % 8 = A0 at *
  generalize z3 % 8 = B0 at *
  obtain ⟨ob, hob⟩ : ∃ ob, ob = getE S Q0 B0 := ⟨_, rfl⟩
  obtain ⟨er, her⟩ : ∃ er, er = atE S Q0 B0 := ⟨_, rfl⟩
  obtain ⟨sh, hsh⟩ : ∃ sh, sh = sameE S P A0 Q0 B0 := ⟨_, rfl⟩
  obtain ⟨fr, hfr⟩ : ∃ fr, fr = atE S P A0 := ⟨_, rfl⟩
  obtain ⟨oc, hoc⟩ : ∃ oc, oc = getE (moveS S P A0 pos) Q0 B0 := ⟨_, rfl⟩
  have HP : Hid ((fr ≠ 0 ∧ sh = false ∧ oc = ob) ∨ (fr = 0 ∧ sh = true ∧ oc = { ob with pos := pos }) ∨ (fr = 0 ∧ sh = false ∧ oc = ob)) := by
    rw [hob, hsh, hfr, hoc]; exact shared_plain S HT.out.inv P A0 Q0 B0 pos
  have hg := fun n => (HT.out.keep0 (Keep.ofDrew n _)).get Q0 B0
  rw [← hob, ← her] at hg
  unfold opv at hg
  have HG := Lib.hid hg
  have HSH := Lib.hid hsh
  have HFR := Lib.hid hfr
  have HOC := Lib.hid hoc
  have HER := Lib.hid her
  clear hg hob her hsh hfr hoc b0 b1 b2 b3
  go_wp2_with fail
  refine Calls.mono (by exact HG.out _) ?_
  rintro e w3 ⟨rfl, hk3⟩
  have hT3 := HT.out.keep0 ((Keep.ofDrew _ _).trans hk3)
  have hT4 := hT3.keep0 ((Keep.refl _ w3).alloc (.cells (opc ob).toArray 30))
  have HBX := Lib.hid (Blk.new w3 30 (opc ob))
  have hs := hT4.same P A0 Q0 B0
  rw [← HSH.out] at hs
  have HS := Lib.hid hs
  have HT3 := Lib.hid hT3
  clear hT3 hT4 hs HG HSH hk3 HT
  go_wp2_with fail
  refine Calls.mono (by exact HS.out) ?_
  rintro e w4 ⟨rfl, hk4⟩
  have hn := HT3.out.enter (((Keep.refl none_ w3).alloc (.cells (opc ob).toArray 30)).trans hk4)
  have hbx := HBX.out.keep hk4 id
  have hm := hn.move P A0 pos
  rw [← HFR.out] at hm
  have HM := Lib.hid hm
  have HBY := Lib.hid hbx
  have HLV : Hid (∀ {W : World} {S' : St}, One w4 W T S' _ → One _ W T S' none_) := fun h => One.leave h (((Keep.refl none_ w3).alloc (.cells (opc ob).toArray 30)).trans hk4) HT3.out.keep
  clear hn hbx hm hk4 HS HBX HFR
  go_wp2_with fail
  refine Calls.mono (by exact HM.out) ?_
  rintro e w5 ⟨rfl, h5⟩
  have hz := HBY.out.keep h5.keep (fun hm => by have := hm.2; omega)
  have hT5 := HLV.out h5
  have hg := hT5.get Q0 B0
  rw [at_move, ← HOC.out, ← HER.out] at hg
  unfold opv at hg
  have HG := Lib.hid hg
  have HT5 := Lib.hid hT5.keep
  have HZ := Lib.hid hz
  clear hT5 hg hz h5 HM HLV HBY HOC HER HT3
  go_wp2_with fail
  refine Calls.mono (by exact HG.out) ?_
  rintro e w6 ⟨rfl, hk6⟩
  have hz := HZ.out.keep hk6 id
  have b0 := hz.cell_of (i := 0) rfl
  have b1 := hz.cell_of (i := 1) rfl
  have b2 := hz.cell_of (i := 2) rfl
  have HK := Lib.hid ((HK0.out.trans (HT5.out.trans hk6)).alloc (.cells (opc oc).toArray 30))
  clear hz hk6 HG HZ HT5
  rcases HP.out with ⟨hf, rfl, rfl⟩ | ⟨rfl, rfl, rfl⟩ | ⟨rfl, rfl, rfl⟩
  · have hfe : (fr == 0) = false := by simpa using hf
    clear hf HP
    go_wp2
    all_goals go_ret
    all_goals exact ⟨by simp, HK.out⟩
  · clear HP
    go_wp2
    go_ret
    exact ⟨by simp, HK.out⟩
  · clear HP
    go_wp2
    go_ret
    exact ⟨by simp, HK.out⟩
end Go.Proofs.Ytdiginkpclbmdaa
