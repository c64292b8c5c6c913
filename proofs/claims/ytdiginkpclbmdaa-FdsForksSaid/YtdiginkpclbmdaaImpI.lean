/- The walk of End. -/
import Derived.Test.YtdiginkpclbmdaaImpH
namespace Go.Proofs.Ytdiginkpclbmdaa
open Go.RowKit
attribute [local go_sem] cell_alloc_some frozen_alloc_some
def endS (S : St) (p : Int) : St := if mayE S p = 5 then S else S.endp p.toNat
def endO (S : St) (p : Int) : List Op3 := if mayE S p = 5 then [] else outs S p.toNat 8
def flat (l : List Op3) : List Value := l.flatMap opc
theorem info30 : (Try.prog.info? 30).map (fun i => (i.zero, i.size, i.bytes)) = some (some (.agg #[.int .u8 0, .int .i64 0, .int .i64 0]), 3, 24) := by kernel_rfl
theorem ownsRow_keep {w w' : World} {base e size n : Nat} {v : Value} {xs : List Value} {G : Nat → Prop} (h : w.ownsRow base e size v n xs) (hk : Keep G w w') (hG : ∀ b, G b → b < base) : w'.ownsRow base e size v n xs := by
  refine ⟨h.1, ?_⟩
  rcases h.2 with h2 | ⟨g, cap, cur, hv, hg, hh, r⟩
  · exact .inl h2
  · exact .inr ⟨g, cap, cur, hv, hg, by rw [hk.block g (Array.getElem?_eq_some_iff.1 hh).1 (fun hx => by have := hG g hx; omega)]; exact hh, r⟩
theorem outs_le (S : St) (p : Nat) : ∀ k, (outs S p k).length ≤ k
  | 0 => by simp [outs]
  | k + 1 => by unfold outs; rw [List.length_append]; have := outs_le S p k; split <;> simp <;> omega
theorem Keep.grown {G : Nat → Prop} {a w w' : World} {row : Option Nat} (h : Keep G a w) (hg : w.grownBy w' row) (hr : ∀ k, row = some k → a.heap.size ≤ k) : Keep G a w' :=
  ⟨hg.os.trans h.os, hg.tape.trans h.tape, hg.output.trans h.output, Nat.le_trans h.size hg.size, fun k hk hs => (hg.block k (Nat.lt_of_lt_of_le hk h.size) (fun e => by have := hr k e.symm; omega)).trans (h.block k hk hs)⟩
section
variable {w w' : World} {T : Nat} {S : St} {pb sb : Nat → Nat} {F : Nat → Prop}
theorem close_same (S : St) {p k : Nat} (h : S.fd p k = 0) : S.close p k = S := by
  unfold St.close
  have : setFd S.fd p k 0 = S.fd := by
    funext q j; unfold setFd; split
    · rename_i e; rw [e.1, e.2, h]
    · rfl
  rw [this]
theorem RepT.ended {p : Nat} (hi : S.Inv) (h : RepT w T (S.shut p 8) pb sb F) : RepT (w.setCell ⟨T, p, none⟩ (.pointer none)) T (S.endp p) pb sb F := by
  have key : ∀ q, (S.endp p).has q = true → q ≠ p ∧ (S.shut p 8).has q = true := fun q hq => by
    simp only [St.endp] at hq
    by_cases e : q = p
    · rw [if_pos e] at hq; cases hq
    · rw [if_neg e] at hq; exact ⟨e, by rw [shut_has]; exact hq⟩
  refine ⟨hi.endp p, ?_, fun q hq hqh => ?_, fun n hn => ?_, fun q r hq hr hqh hrh e => h.inj q r hq hr (key q hqh).2 (key r hrh).2 e, h.sinj, h.footT, fun q hq hqh => h.footP q hq (key q hqh).2, h.footS⟩
  · have := h.tab.set_ p (.pointer none)
    rw [row_set] at this
    have e : row 6 (tcell (S.endp p) pb) = row 6 (fun j => if j = p then .pointer none else tcell (S.shut p 8) pb j) := by
      refine row_congr fun j _ => ?_
      by_cases ej : j = p
      · subst ej; simp [tcell, ptr?, St.endp]
      · simp [tcell, ptr?, St.endp, ej, shut_has]
    rw [e]; exact this
  · exact (h.proc q hq (key q hqh).2).far (p := ⟨T, p, none⟩) (Ne.symm (tab_ne h hq (key q hqh).2)) _
  · exact (h.shr n hn).far (p := ⟨T, p, none⟩) (Ne.symm (tab_ne_sh h hn)) _
set_option maxHeartbeats 1000000 in
theorem end_any (h : RepT w T S pb sb F) (hFl : ∀ b, F b → b < w.heap.size) (p : Int) :
    Calls Try.prog 12 #[.pointer (some ⟨T, 0, none⟩), .int .i64 p] w fun e w' => (∃ v, e = .returned (.tuple #[v, .int .i64 (mayE S p)]) ∧ w'.ownsRow w.heap.size 30 3 v (endO S p).length (flat (endO S p))) ∧ RT w' T (endS S p) (ext F w w') ∧ Keep F w w' := by
  rcases mayE_cases S p with ⟨hm, _⟩ | ⟨hm, q, rfl, hq, hh⟩
  · have hO : endO S p = [] := by unfold endO; rw [if_pos hm]
    have hS : endS S p = S := by unfold endS; rw [if_pos hm]
    rw [hO, hS, hm]
    have H1 := Lib.hid (of_err h p hm)
    have HH := Lib.hid h
    clear h hm hO hS
    go_enter Try.func12, Try.ntmps12
    go_wp2_with fail
    refine H1.out.mono ?_
    rintro e w' ⟨rfl, rfl⟩
    go_wp2
    go_ret2
    exact ⟨⟨_, rfl, World.ownsRow_nil ..⟩, ⟨_, _, HH.out.more fun _ hb => .inl hb⟩, Keep.refl _ _⟩
  · have hO : endO S q = outs S q 8 := by unfold endO; rw [if_neg (by rw [hm]; decide)]; rfl
    have hS : endS S q = S.endp q := by unfold endS; rw [if_neg (by rw [hm]; decide)]; rfl
    rw [hO, hS, hm]
    obtain ⟨i0, hi, hz0, hz1, hz2⟩ := info_parts info30
    have H1 := Lib.hid (of_ok h q hq hh)
    have HH := Lib.hid h
    have HHH : ∀ k, Hid ((S.shut q k).has q = true) := fun k => by rw [shut_has]; exact hh
    have HFL := Lib.hid hFl; have HINV := Lib.hid h.inv
    clear h hm hO hS hh hFl
    go_enter Try.func12, Try.ntmps12
    go_wp2_with fail
    refine H1.out.mono ?_
    rintro e w' ⟨rfl, rfl⟩
    go_wp2
    go_loopw [8, 21] (fun v i wr => ∃ k : Nat, k ≤ 8 ∧ i = .int .i64 k ∧ wr.ownsRow w.heap.size 30 3 v (outs S q k).length (flat (outs S q k)) ∧ Hid (RepT wr T (S.shut q k) pb sb F) ∧ Hid (Keep F w wr)) (fun _ i _ => 8 - (intOf i).toNat)
    case atStart => exact ⟨0, by omega, rfl, World.ownsRow_nil .., HH, Keep.refl _ _⟩
    case round =>
      obtain ⟨k, hk, rfl, hown, HR, HK⟩ := hrel
      by_cases hlt : k < 8
      · have hck := HR.out.cellP hq (HHH k).out hlt
        have hfd : (S.shut q k).fd q k = S.fd q k := by rw [shut_fd]; rw [if_neg (by omega)]
        have hle := outs_le S q k
        have hsz := HK.out.size
        have h4 : (0 : Int) ≤ (k : Int) := by omega
        have h5 : (k : Int) < 8 := by omega
        by_cases hf : S.fd q k = 0
        · rw [pcell_none (by rw [hfd]; exact hf)] at hck
          have HS2 : Hid (outs S q (k + 1) = outs S q k) := by show outs S q (k + 1) = _; unfold outs; rw [if_neg (by omega)]; simp; cases k <;> rfl
          have HS3 : Hid (S.shut q (k + 1) = S.shut q k) := close_same _ (by rw [hfd]; exact hf)
          clear hf hfd
          go_wp2
          go_quiet (fail)
          go_wp2
          go_roundw
          case rel => exact ⟨k + 1, by omega, by go_num, by rw [HS2.out]; exact hown, by rw [HS3.out]; exact HR.out.keep0 (Keep.ofDrew _ _), HK.out.drewN _⟩
          case measure => simp [intOf]; omega
        · rw [pcell_some (by rw [hfd]; exact hf), hfd] at hck
          have hrel := fun n => release_any (HR.out.keep0 (Keep.ofDrew n wr)) q k hq hlt (HHH k).out (by rw [hfd]; exact hf)
          rw [hfd] at hrel
          have HREL := Lib.hid hrel
          have hl : Live (S.shut q k) (S.fd q k) := by rw [← hfd]; exact live_of hq hlt (by rw [hfd]; exact hf)
          by_cases hc : cnt (S.shut q (k + 1)).fd (S.fd q k) = 0
          · have HS2 : Hid (outs S q (k + 1) = outs S q k ++ [S.what (S.fd q k)]) := by show outs S q (k + 1) = _; rw [outs, if_pos ⟨hf, hc⟩]
            have HB : Hid ((cnt ((S.shut q k).close q k).fd (S.fd q k) == 0) = true) := by show (cnt (S.shut q (k + 1)).fd (S.fd q k) == 0) = true; rw [hc]; rfl
            have HW : Hid ((S.shut q k).what (S.fd q k) = S.what (S.fd q k)) := by show (S.shut q k).what _ = _; unfold St.what; rw [shut_all]
            clear hf hfd hrel hl hc
            go_wp2
            go_quiet (fail)
            go_wp2_with fail
            refine Calls.mono (by exact HREL.out nq) ?_
            rintro e w1 ⟨rfl, hr, hk1, hb⟩
            rw [HB.out]
            rw [HW.out] at hb
            have t0 := hb.cell_of (i := 0) rfl
            have t1 := hb.cell_of (i := 1) rfl
            have t2 := hb.cell_of (i := 2) rfl
            have hown1 := ownsRow_keep (ownsRow_drewN hown nq) hk1 HFL.out
            have hk2 := (HK.out.drewN nq).trans hk1
            have hsz1 := hk2.size
            have HR1 := Lib.hid hr; have HK1 := Lib.hid hk2
            generalize S.what (S.fd q k) = ob at *
            clear hr hk1 hk2 hb hown HR HK HREL hck
            go_wp2_with (at_builtin; refine wpList_append_own _ rfl _ _ 33 rfl w.heap.size 30 i0 (.agg #[.int .u8 0, .int .i64 0, .int .i64 0]) 3 24 Try.underlying33 hi hz0 hz1 hz2 rfl (by decide) _ _ _ rfl (World.ownsRow.alloc hown1 _) ⟨w1.heap.size, 0, none⟩ 1 1 (opc ob) rfl rfl ?c1 ?c2 ?c3 ?c4 ?c5 ?_; (case c1 => exact World.news_of_block (cs := (opc ob).toArray) (t := 30) (fr := (0, 0)) (heap_alloc_new _ _)); (case c2 => simp [Value.oneCell', opc]); (case c3 => unfold maxLen; omega); (case c4 => omega); (case c5 => rw [World.size_alloc]; omega); intro v' w2 hown' hgrow _)
            have HK2 := Lib.hid ((HK1.out.alloc (.cells (opc ob).toArray 30)).grown hgrow (fun j e => ((World.ownsRow.alloc hown1 (.cells (opc ob).toArray 30)).lt j e).1))
            have HR2 : Hid (RepT w2 T (S.shut q (k + 1)) pb sb F) := (HR1.out.keep0 ((Keep.refl _ w1).alloc (.cells (opc ob).toArray 30))).keep
              (G := fun b => w.heap.size ≤ b) (by
                refine ⟨hgrow.os, hgrow.tape, hgrow.output, hgrow.size, fun b hb hs => hgrow.block b hb (fun e => hs ((World.ownsRow.alloc hown1 (.cells (opc ob).toArray 30)).lt b e.symm).1)⟩) (fun b hb => by have := HFL.out b hb; omega)
            have HO1 := Lib.hid hown'
            clear hgrow hown' hown1
            go_wp2
            go_roundw
            case rel => exact ⟨k + 1, by omega, by go_num, by rw [HS2.out]; simpa [flat] using HO1.out, HR2, HK2⟩
            case measure => simp [intOf]; omega
          · have HS2 : Hid (outs S q (k + 1) = outs S q k) := by show outs S q (k + 1) = _; rw [outs, if_neg (by rintro ⟨_, h⟩; exact hc h)]; simp
            have HB : Hid ((cnt ((S.shut q k).close q k).fd (S.fd q k) == 0) = false) := by show (cnt (S.shut q (k + 1)).fd (S.fd q k) == 0) = false; simpa using hc
            clear hf hfd hrel hl hc
            go_wp2
            go_quiet (fail)
            go_wp2_with fail
            refine Calls.mono (by exact HREL.out nq) ?_
            rintro e w1 ⟨rfl, hr, hk1, hb⟩
            rw [HB.out]
            have hown1 := ownsRow_keep (ownsRow_drewN hown nq) hk1 HFL.out
            have hk2 := (HK.out.drewN nq).trans hk1
            have HR1 := Lib.hid hr; have HK1 := Lib.hid hk2
            clear hr hk1 hk2 hb hown HR HK HREL hck
            go_wp2
            go_roundw
            case rel => exact ⟨k + 1, by omega, by go_num, by rw [HS2.out]; exact hown1, HR1, HK1⟩
            case measure => simp [intOf]; omega
      · obtain rfl : k = 8 := by omega
        have hc := HR.out.cellT hq
        have hz := HR.out.tab.frozen q
        have HE := Lib.hid (HR.out.ended HINV.out)
        have HF := Lib.hid HR.out.footT
        have HO2 := Lib.hid (ownsRow_keep hown (Keep.setCell (S := F) (p := ⟨T, q, none⟩) (Keep.refl F wr) (.inl HR.out.footT) (.pointer none)) HFL.out)
        have h4 : (0 : Int) ≤ (q : Int) := by omega
        have h5 : (q : Int) < 6 := by omega
        clear hown
        go_wp2
        go_ret2
        exact ⟨⟨_, rfl, HO2.out⟩, ⟨_, _, HE.out.more fun _ hb => .inl hb⟩, HK.out.setCell (.inl HF.out) _⟩
end
end Go.Proofs.Ytdiginkpclbmdaa
