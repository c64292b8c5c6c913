/- The walk of the document's End. -/
import Derived.Test.YtdiginkpclbmdaaRefH
namespace Go.Proofs.Ytdiginkpclbmdaa
open Go.RowKit
attribute [local go_sem] cell_alloc_some frozen_alloc_some
section
variable {w w' : World} {R : Nat} {S : St} {v : Value} {F : Nat → Prop}
theorem RepR.ended {p : Nat} (hp : p < 6) (hi : S.Inv) (h : RepR w R (S.shut p 8) v F) : RepR (w.setCell ⟨R, p, none⟩ (.bool false)) R (S.endp p) v F := by
  refine ⟨hi.endp p, ?_, ownsRow_keep' h.all (Keep.setCell (S := (· = R)) (Keep.refl _ w) (.inl rfl) _) (fun g hg e => own_ne h.all h.tab (by decide) (by rw [hg, e])), h.footR, h.footA⟩
  have := h.tab.set_ p (.bool false)
  rw [row_set] at this
  have e : row 55 (rcell (S.endp p) v) = row 55 (fun j => if j = p then .bool false else rcell (S.shut p 8) v j) := by
    refine row_congr fun j hj => ?_
    unfold rcell
    by_cases ej : j = p
    · subst ej; rw [if_pos rfl, if_pos hp]; simp [St.endp]
    · rw [if_neg ej]; simp [St.endp, ej, shut_has]
  rw [e]; exact this
theorem may_shut {q : Nat} (hm : mayE S q = 0) (k : Nat) : mayE (S.shut q k) q = 0 := by
  unfold mayE at *; rw [shut_has]; exact hm
theorem at_shut {q k : Nat} (hm : mayE S q = 0) (hk : k < 8) : atE (S.shut q k) q k = if S.fd q k = 0 then 3 else 0 := by
  have hfd : (S.shut q k).fd q k = S.fd q k := by rw [shut_fd]; rw [if_neg (by omega)]
  unfold atE
  rw [if_neg (by rw [may_shut hm]; decide)]
  simp only [Int.toNat_natCast, hfd]
  by_cases h : S.fd q k = 0
  · rw [if_pos (.inr (.inr h)), if_pos h]
  · rw [if_neg (by rintro (h' | h' | h'); omega; omega; exact h h'), if_neg h]
theorem close_shut0 {q k : Nat} (hm : mayE S q = 0) (hk : k < 8) (hf : S.fd q k = 0) : atE (S.shut q k) q k = 3 ∧ closeE (S.shut q k) q k = (zero3, false) ∧ closeS (S.shut q k) q k = S.shut q (k + 1) ∧ outs S q (k + 1) = outs S q k := by
  have ha := at_shut hm hk
  rw [if_pos hf] at ha
  refine ⟨ha, by unfold closeE; rw [if_neg (by rw [ha]; decide)], ?_, ?_⟩
  · unfold closeS; rw [if_neg (by rw [ha]; decide)]
    exact (close_same _ (by rw [shut_fd, if_neg (by omega)]; exact hf)).symm
  · show outs S q k ++ _ = _; rw [if_neg (by omega)]; simp
theorem close_shut1 {q k : Nat} (hm : mayE S q = 0) (hk : k < 8) (hf : S.fd q k ≠ 0) : atE (S.shut q k) q k = 0 ∧ closeE (S.shut q k) q k = (S.what (S.fd q k), cnt (S.shut q (k + 1)).fd (S.fd q k) == 0) ∧ closeS (S.shut q k) q k = S.shut q (k + 1) := by
  have ha := at_shut hm hk
  rw [if_neg hf] at ha
  have hfd : (S.shut q k).fd q k = S.fd q k := by rw [shut_fd]; rw [if_neg (by omega)]
  have hw : ∀ n, (S.shut q k).what n = S.what n := fun n => by unfold St.what; rw [shut_all]
  refine ⟨ha, ?_, ?_⟩
  · unfold closeE; rw [if_pos ha]; simp only [Int.toNat_natCast, hfd, hw]; rfl
  · unfold closeS; rw [if_pos ha]; rfl
set_option maxHeartbeats 1000000 in
theorem rend_any (h : RepR w R S v F) (hFl : ∀ b, F b → b < w.heap.size) (p : Int) :
    Calls Try.prog 40 #[.pointer (some ⟨R, 0, none⟩), .int .i64 p] w fun e w' => (∃ v, e = .returned (.tuple #[v, .int .i64 (mayE S p)]) ∧ w'.ownsRow w.heap.size 30 3 v (endO S p).length (flat (endO S p))) ∧ RepR w' R (endS S p) v F ∧ Keep (· = R) w w' := by
  have H1 := rmay_any h p
  rcases mayE_cases S p with ⟨hm, _⟩ | ⟨hm, q, rfl, hq, hh⟩
  · have hO : endO S p = [] := by unfold endO; rw [if_pos hm]
    have hS : endS S p = S := by unfold endS; rw [if_pos hm]
    rw [hO, hS]
    rw [hm] at H1 ⊢
    replace H1 := Lib.hid H1
    have HH := Lib.hid h
    clear h hm hO hS
    go_enter Try.func40, Try.ntmps40
    go_wp2_with fail
    refine H1.out.mono ?_
    rintro e w' ⟨rfl, rfl⟩
    go_wp2
    go_ret2
    exact ⟨⟨_, rfl, World.ownsRow_nil ..⟩, HH.out, Keep.refl _ _⟩
  · have hO : endO S q = outs S q 8 := by unfold endO; rw [if_neg (by rw [hm]; decide)]; rfl
    have hS : endS S q = S.endp q := by unfold endS; rw [if_neg (by rw [hm]; decide)]; rfl
    rw [hO, hS]
    have HM := Lib.hid hm
    rw [hm] at H1 ⊢
    replace H1 := Lib.hid H1
    obtain ⟨i0, hi, hz0, hz1, hz2⟩ := info_parts info30
    have HH := Lib.hid h
    have HRL : Hid (∀ b, b = R → b < w.heap.size) := fun b e => by subst e; exact hFl _ h.footR
    have HFL := Lib.hid hFl; have HINV := Lib.hid h.inv
    clear h hm hO hS hh hFl
    go_enter Try.func40, Try.ntmps40
    go_wp2_with fail
    refine H1.out.mono ?_
    rintro e w' ⟨rfl, rfl⟩
    go_wp2
    go_loopw [7, 8] (fun v' i wr => ∃ k : Nat, k ≤ 8 ∧ i = .int .i64 k ∧ wr.ownsRow w.heap.size 30 3 v' (outs S q k).length (flat (outs S q k)) ∧ Hid (RepR wr R (S.shut q k) v F) ∧ Hid (Keep (· = R) w wr)) (fun _ i _ => 8 - (intOf i).toNat)
    case atStart => exact ⟨0, by omega, rfl, World.ownsRow_nil .., HH, Keep.refl _ _⟩
    case round =>
      obtain ⟨k, hk, rfl, hown, HR, HK⟩ := hrel
      by_cases hlt : k < 8
      · have HCL := rclose_any HR.out (fun b hb => Nat.lt_of_lt_of_le (HFL.out b hb) HK.out.size) q k
        have hle := outs_le S q k
        have hsz := HK.out.size
        have h4 : (0 : Int) ≤ (k : Int) := by omega
        have h5 : (k : Int) < 8 := by omega
        by_cases hf : S.fd q k = 0
        · obtain ⟨e1, e2, e3, e4⟩ := close_shut0 HM.out hlt hf
          rw [e1, e2, e3] at HCL
          replace HCL := Lib.hid HCL
          have HO := Lib.hid e4
          clear e1 e2 e3 e4 hf
          go_wp2_with fail
          refine HCL.out.mono ?_
          rintro e w1 ⟨rfl, hr, hk1⟩
          have HR1 := Lib.hid hr; have HK1 := Lib.hid (HK.out.trans hk1)
          have HO1 := Lib.hid (ownsRow_keep hown hk1 HRL.out)
          clear hr hk1 hown HR HK HCL
          unfold opv zero3
          go_wp2
          go_roundw
          case rel => exact ⟨k + 1, by omega, by go_num, by rw [HO.out]; exact HO1.out.alloc _, HR1.out.keep0 ((Keep.refl _ _).alloc _), HK1.out.alloc _⟩
          case measure => simp [intOf]; omega
        · obtain ⟨e1, e2, e3⟩ := close_shut1 HM.out hlt hf
          rw [e1, e2, e3] at HCL
          by_cases hc : cnt (S.shut q (k + 1)).fd (S.fd q k) = 0
          · have HS2 : Hid (outs S q (k + 1) = outs S q k ++ [S.what (S.fd q k)]) := by show outs S q (k + 1) = _; rw [outs, if_pos ⟨hf, hc⟩]
            rw [hc] at HCL
            replace HCL := Lib.hid HCL
            clear e1 e2 e3 hf hc
            go_wp2_with fail
            refine HCL.out.mono ?_
            rintro e w1 ⟨rfl, hr, hk1⟩
            have hown1 := ownsRow_keep hown hk1 HRL.out
            have HK1 := Lib.hid (HK.out.trans hk1)
            have hsz1 := HK1.out.size
            have HR1 := Lib.hid hr
            generalize S.what (S.fd q k) = ob at *
            clear hr hk1 hown HR HK HCL
            unfold opv
            have own2 := (hown1.alloc (.cells #[.int .u8 ob.kind, .int .i64 ob.ref, .int .i64 ob.pos] 30)).alloc (.cells (opc ob).toArray 30)
            have HO2 := Lib.hid own2
            clear own2
            go_wp2_with (at_builtin; refine wpList_append_own _ rfl _ _ 33 rfl w.heap.size 30 i0 (.agg #[.int .u8 0, .int .i64 0, .int .i64 0]) 3 24 Try.underlying33 hi hz0 hz1 hz2 rfl (by decide) _ _ _ rfl HO2.out ⟨w1.heap.size + 1, 0, none⟩ 1 1 (opc ob) rfl rfl ?c1 ?c2 ?c3 ?c4 ?c5 ?_; (case c1 => exact World.news_of_block (cs := (opc ob).toArray) (t := 30) (fr := (0, 0)) (by rw [← World.size_alloc]; exact heap_alloc_new _ _)); (case c2 => simp [Value.oneCell', opc]); (case c3 => unfold maxLen; omega); (case c4 => omega); (case c5 => simp; omega); intro v' w2 hown' hgrow _)
            have HK2 := Lib.hid (((HK1.out.alloc (.cells #[.int .u8 ob.kind, .int .i64 ob.ref, .int .i64 ob.pos] 30)).alloc (.cells (opc ob).toArray 30)).grown hgrow (fun j e => (HO2.out.lt j e).1))
            have HR2 : Hid (RepR w2 R (S.shut q (k + 1)) v F) := (HR1.out.keep0 (((Keep.refl _ w1).alloc (.cells #[.int .u8 ob.kind, .int .i64 ob.ref, .int .i64 ob.pos] 30)).alloc (.cells (opc ob).toArray 30))).keep
              (G := fun b => w.heap.size ≤ b) (by
                refine ⟨hgrow.os, hgrow.tape, hgrow.output, hgrow.size, fun b hb hs => hgrow.block b hb (fun e => hs (HO2.out.lt b e.symm).1)⟩) (fun b hb => by have := HFL.out b hb; omega)
            have HO1 := Lib.hid hown'
            clear hgrow hown'
            go_roundw
            case rel => exact ⟨k + 1, by omega, by go_num, by rw [HS2.out]; simpa [flat] using HO1.out, HR2, HK2⟩
            case measure => simp [intOf]; omega
          · have HS2 : Hid (outs S q (k + 1) = outs S q k) := by show outs S q (k + 1) = _; rw [outs, if_neg (by rintro ⟨_, h⟩; exact hc h)]; simp
            have hcb : (cnt (S.shut q (k + 1)).fd (S.fd q k) == 0) = false := by simpa using hc
            rw [hcb] at HCL
            replace HCL := Lib.hid HCL
            clear e1 e2 e3 hf hc hcb
            go_wp2_with fail
            refine HCL.out.mono ?_
            rintro e w1 ⟨rfl, hr, hk1⟩
            have HO1 := Lib.hid (ownsRow_keep hown hk1 HRL.out)
            have HK1 := Lib.hid (HK.out.trans hk1)
            have HR1 := Lib.hid hr
            generalize S.what (S.fd q k) = ob at *
            clear hr hk1 hown HR HK HCL
            unfold opv
            go_wp2
            go_roundw
            case rel => exact ⟨k + 1, by omega, by go_num, by rw [HS2.out]; exact HO1.out.alloc _, HR1.out.keep0 ((Keep.refl _ _).alloc _), HK1.out.alloc _⟩
            case measure => simp [intOf]; omega
      · obtain rfl : k = 8 := by omega
        have hc := HR.out.cellH hq
        have hz := HR.out.tab.frozen q
        have HE := Lib.hid (HR.out.ended hq HINV.out)
        have HO2 := Lib.hid (ownsRow_keep hown (Keep.setCell (S := (· = R)) (p := ⟨R, q, none⟩) (Keep.refl _ wr) (.inl rfl) (.bool false)) HRL.out)
        have h4 : (0 : Int) ≤ (q : Int) := by omega
        have h5 : (q : Int) < 6 := by omega
        clear hown
        go_wp2
        go_ret2
        exact ⟨⟨_, rfl, HO2.out⟩, HE.out, HK.out.setCell (.inl rfl) _⟩
end
end Go.Proofs.Ytdiginkpclbmdaa
