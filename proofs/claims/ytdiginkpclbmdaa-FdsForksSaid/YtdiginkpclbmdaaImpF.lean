/- The walk of Begin. -/
import Derived.Test.YtdiginkpclbmdaaImpE
namespace Go.Proofs.Ytdiginkpclbmdaa
open Go.RowKit
attribute [local go_sem] cell_alloc_some frozen_alloc_some
def beginS (S : St) (p : Int) : St := if freshE S p = 0 then S.begin p.toNat else S
def nils8 : List Value := [.pointer none, .pointer none, .pointer none, .pointer none, .pointer none, .pointer none, .pointer none, .pointer none]
theorem nils8_row : nils8 = row 8 (fun _ => .pointer none) := rfl
section
variable {w w' : World} {T : Nat} {S : St} {pb sb : Nat → Nat} {F : Nat → Prop}
theorem RepT.toExt (h : RepT w T S pb sb F) : RepT w T S pb sb (ext F w w') := h.more fun _ hb => .inl hb
theorem RepT.begun (h : RepT w T S pb sb F) {p : Nat} (hp : p < 6) (hh : S.has p = false) :
    RepT ((w.setCell ⟨T, p, none⟩ (.pointer (some ⟨w.heap.size, 0, none⟩))).alloc (.cells nils8.toArray 67)) T (S.begin p) (fun q => if q = p then w.heap.size else pb q) sb
      (ext F w ((w.setCell ⟨T, p, none⟩ (.pointer (some ⟨w.heap.size, 0, none⟩))).alloc (.cells nils8.toArray 67))) := by
  have hT := h.tab.lt
  refine ⟨h.inv.begin p, ?_, fun q hq hqh => ?_, fun n hn => ?_, fun q r hq hr hqh hrh e => ?_, h.sinj, .inl h.footT, fun q hq hqh => ?_, fun n hn => .inl (h.footS n hn)⟩
  · have := (h.tab.set_ p (.pointer (some ⟨w.heap.size, 0, none⟩))).alloc (.cells nils8.toArray 67)
    rw [row_set] at this
    have e : row 6 (tcell (S.begin p) (fun q => if q = p then w.heap.size else pb q)) = row 6 (fun j => if j = p then .pointer (some ⟨w.heap.size, 0, none⟩) else tcell S pb j) := by
      refine row_congr fun j _ => ?_
      by_cases ej : j = p
      · subst ej; simp [tcell, ptr?, St.begin]
      · simp [tcell, ptr?, St.begin, ej]
    rw [e]; exact this
  · by_cases e : q = p
    · subst e
      rw [if_pos rfl]
      have := Blk.new (w.setCell ⟨T, q, none⟩ (.pointer (some ⟨w.heap.size, 0, none⟩))) 67 nils8
      rw [World.size_setCell] at this
      have e : row 8 (pcell (S.begin q) sb q) = nils8 := by
        rw [nils8_row]; refine row_congr fun j hj => pcell_none (S := S.begin q) ?_
        exact h.inv.none q j hq hj hh
      rw [e]; exact this
    · rw [if_neg e]
      have hqh' : S.has q = true := by simp only [St.begin] at hqh; rw [if_neg e] at hqh; exact hqh
      exact ((h.proc q hq hqh').far (p := ⟨T, p, none⟩) (Ne.symm (tab_ne h hq hqh')) _).alloc _
  · exact ((h.shr n hn).far (p := ⟨T, p, none⟩) (Ne.symm (tab_ne_sh h hn)) _).alloc _
  · have key : ∀ q, q < 6 → q ≠ p → (S.begin p).has q = true → pb q < w.heap.size := fun q hq e hqh => by
      have hqh' : S.has q = true := by simp only [St.begin] at hqh; rw [if_neg e] at hqh; exact hqh
      exact (h.proc q hq hqh').lt
    change (if q = p then w.heap.size else pb q) = (if r = p then w.heap.size else pb r) at e
    by_cases e1 : q = p
    · by_cases e2 : r = p
      · rw [e1, e2]
      · rw [if_pos e1, if_neg e2] at e; have := key r hr e2 hrh; omega
    · by_cases e2 : r = p
      · rw [if_neg e1, if_pos e2] at e; have := key q hq e1 hqh; omega
      · rw [if_neg e1, if_neg e2] at e
        simp only [St.begin] at hqh hrh
        rw [if_neg e1] at hqh; rw [if_neg e2] at hrh
        exact h.inj q r hq hr hqh hrh e
  · by_cases e : q = p
    · rw [if_pos e]; exact .inr ⟨Nat.le_refl _, by simp⟩
    · rw [if_neg e]
      simp only [St.begin] at hqh; rw [if_neg e] at hqh
      exact .inl (h.footP q hq hqh)
set_option maxHeartbeats 400000 in
theorem begin_any (h : RepT w T S pb sb F) (p : Int) :
    Calls Try.prog 11 #[.pointer (some ⟨T, 0, none⟩), .int .i64 p] w fun e w' => e = .returned (.int .i64 (freshE S p)) ∧ RT w' T (beginS S p) (ext F w w') ∧ Keep F w w' := by
  have H1 := Lib.hid (fresh_any h p)
  have HF := Lib.hid h.footT
  have HH := Lib.hid h
  rcases freshE_cases S p with ⟨he, _⟩ | ⟨q, rfl, hq, hh, he⟩ | ⟨q, rfl, hq, hh, he⟩
  · have hs : beginS S p = S := by unfold beginS; rw [if_neg (by rw [he]; decide)]
    rw [he] at H1 ⊢; rw [hs]; clear he hs h
    go_enter Try.func11, Try.ntmps11
    go_wp2_with fail
    refine H1.out.mono ?_
    rintro e w' ⟨rfl, rfl⟩
    go_wp2
    go_ret
    exact ⟨rfl, ⟨pb, sb, HH.out.toExt⟩, Keep.refl _ _⟩
  · have hs : beginS S q = S := by unfold beginS; rw [if_neg (by rw [he]; decide)]
    rw [he] at H1 ⊢; rw [hs]; clear he hs h hh
    go_enter Try.func11, Try.ntmps11
    go_wp2_with fail
    refine H1.out.mono ?_
    rintro e w' ⟨rfl, rfl⟩
    go_wp2
    go_ret
    exact ⟨rfl, ⟨pb, sb, HH.out.toExt⟩, Keep.refl _ _⟩
  · have hs : beginS S q = S.begin q := by unfold beginS; rw [if_pos he]; rfl
    have hc := h.cellT hq
    have hz := h.tab.frozen q
    have hlt := h.tab.lt
    have HB := Lib.hid (h.begun hq hh)
    have h4 : (0 : Int) ≤ (q : Int) := by omega
    have h5 : (q : Int) < 6 := by omega
    rw [he] at H1 ⊢; rw [hs]; clear he hs h hh
    go_enter Try.func11, Try.ntmps11
    go_wp2_with fail
    refine H1.out.mono ?_
    rintro e w' ⟨rfl, rfl⟩
    go_wp2
    go_ret
    exact ⟨rfl, ⟨_, _, HB.out⟩, (Keep.setCell (S := F) (p := ⟨T, q, none⟩) (Keep.refl _ w) (.inl HF.out) _).alloc _⟩
end
end Go.Proofs.Ytdiginkpclbmdaa
