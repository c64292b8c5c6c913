/- How the document's table is laid; the walks of may, fresh, at. -/
import Derived.Test.YtdiginkpclbmdaaImpI
namespace Go.Proofs.Ytdiginkpclbmdaa
open Go.RowKit
attribute [local go_sem] cell_alloc_some frozen_alloc_some
def rcell (S : St) (v : Value) (i : Nat) : Value := if i < 6 then .bool (S.has i) else if i < 54 then .int .i64 (S.fd ((i - 6) / 8) ((i - 6) % 8)) else v
/-- the document's table at R: all that there ever was in v, all of it in F -/
structure RepR (w : World) (R : Nat) (S : St) (v : Value) (F : Nat → Prop) : Prop where
  inv : S.Inv
  tab : Blk w R 84 (row 55 (rcell S v))
  all : w.ownsRow 0 30 3 v S.all.length (flat S.all)
  footR : F R
  footA : ∀ g, v.ownBlock = some g → F g
def RR (w : World) (R : Nat) (S : St) (F : Nat → Prop) : Prop := ∃ v, RepR w R S v F
theorem ownsRow_keep' {w w' : World} {base e size n : Nat} {v : Value} {xs : List Value} {G : Nat → Prop} (h : w.ownsRow base e size v n xs) (hk : Keep G w w') (hG : ∀ g, v.ownBlock = some g → ¬ G g) : w'.ownsRow base e size v n xs := by
  refine ⟨h.1, ?_⟩
  rcases h.2 with h2 | ⟨g, cap, cur, hv, hg, hh, r⟩
  · exact .inl h2
  · exact .inr ⟨g, cap, cur, hv, hg, by rw [hk.block g (Array.getElem?_eq_some_iff.1 hh).1 (hG g (by rw [hv]; rfl))]; exact hh, r⟩
section
variable {w w' : World} {R : Nat} {S : St} {v : Value} {F : Nat → Prop}
theorem RepR.keep {G : Nat → Prop} (h : RepR w R S v F) (hk : Keep G w w') (hd : ∀ b, F b → ¬ G b) : RepR w' R S v F :=
  ⟨h.inv, h.tab.keep hk (hd _ h.footR), ownsRow_keep' h.all hk (fun g hg => hd _ (h.footA g hg)), h.footR, h.footA⟩
theorem RepR.keep0 (h : RepR w R S v F) (hk : Keep (fun _ => False) w w') : RepR w' R S v F := h.keep hk (fun _ _ => id)
theorem RepR.more {G : Nat → Prop} (h : RepR w R S v F) (hd : ∀ b, F b → G b) : RepR w R S v G := ⟨h.inv, h.tab, h.all, hd _ h.footR, fun g hg => hd _ (h.footA g hg)⟩
theorem RepR.cellH (h : RepR w R S v F) {p : Nat} (hp : p < 6) : w.cell? ⟨R, p, none⟩ = some (.bool (S.has p)) := h.tab.cell_of (by rw [row_get _ (by omega)]; unfold rcell; rw [if_pos hp])
theorem RepR.cellF (h : RepR w R S v F) {p k : Nat} (hp : p < 6) (hk : k < 8) : w.cell? ⟨R, 6 + p * 8 + k, none⟩ = some (.int .i64 (S.fd p k)) :=
  h.tab.cell_of (by rw [row_get _ (by omega)]; unfold rcell; rw [if_neg (by omega), if_pos (by omega), show (6 + p * 8 + k - 6) / 8 = p by omega, show (6 + p * 8 + k - 6) % 8 = k by omega])
theorem RepR.cellA (h : RepR w R S v F) : w.cell? ⟨R, 54, none⟩ = some v := h.tab.cell_of (by rw [row_get _ (by omega)]; unfold rcell; rw [if_neg (by omega), if_neg (by omega)])
set_option maxHeartbeats 400000 in
theorem rmay_any (h : RepR w R S v F) (p : Int) :
    Calls Try.prog 48 #[.pointer (some ⟨R, 0, none⟩), .int .i64 p] w fun e w' => e = .returned (.int .i64 (mayE S p)) ∧ w = w' := by
  rcases mayE_cases S p with ⟨he, h1 | h1 | ⟨q, rfl, hq, hh⟩⟩ | ⟨he, q, rfl, hq, hh⟩
  · rw [he]; clear he h
    go_enter Try.func48, Try.ntmps48
    go_wp2
    go_ret
    exact ⟨rfl, rfl⟩
  · rw [he]; clear he h
    go_enter Try.func48, Try.ntmps48
    go_wp2
    go_ret
    exact ⟨rfl, rfl⟩
  · rw [he]
    have hc := h.cellH hq
    rw [hh] at hc
    clear he h hh
    have h0 : ¬ ((q : Int) < 0) := by omega
    have h1 : ¬ ((q : Int) ≥ 6) := by omega
    go_enter Try.func48, Try.ntmps48
    go_wp2
    go_ret
    exact ⟨rfl, rfl⟩
  · rw [he]
    have hc := h.cellH hq
    rw [hh] at hc
    clear he h hh
    have h0 : ¬ ((q : Int) < 0) := by omega
    have h1 : ¬ ((q : Int) ≥ 6) := by omega
    go_enter Try.func48, Try.ntmps48
    go_wp2
    go_ret
    exact ⟨rfl, rfl⟩
set_option maxHeartbeats 400000 in
theorem rfresh_any (h : RepR w R S v F) (p : Int) :
    Calls Try.prog 50 #[.pointer (some ⟨R, 0, none⟩), .int .i64 p] w fun e w' => e = .returned (.int .i64 (freshE S p)) ∧ w = w' := by
  rcases freshE_cases S p with ⟨he, h1 | h1⟩ | ⟨q, rfl, hq, hh, he⟩ | ⟨q, rfl, hq, hh, he⟩
  · rw [he]; clear he h
    go_enter Try.func50, Try.ntmps50
    go_wp2
    go_ret
    exact ⟨rfl, rfl⟩
  · rw [he]; clear he h
    go_enter Try.func50, Try.ntmps50
    go_wp2
    go_ret
    exact ⟨rfl, rfl⟩
  · rw [he]
    have hc := h.cellH hq
    rw [hh] at hc
    clear he h hh
    have h0 : ¬ ((q : Int) < 0) := by omega
    have h1 : ¬ ((q : Int) ≥ 6) := by omega
    go_enter Try.func50, Try.ntmps50
    go_wp2
    go_ret
    exact ⟨rfl, rfl⟩
  · rw [he]
    have hc := h.cellH hq
    rw [hh] at hc
    clear he h hh
    have h0 : ¬ ((q : Int) < 0) := by omega
    have h1 : ¬ ((q : Int) ≥ 6) := by omega
    go_enter Try.func50, Try.ntmps50
    go_wp2
    go_ret
    exact ⟨rfl, rfl⟩
set_option maxHeartbeats 400000 in
theorem rat_any (h : RepR w R S v F) (p k : Int) :
    Calls Try.prog 49 #[.pointer (some ⟨R, 0, none⟩), .int .i64 p, .int .i64 k] w fun e w' => e = .returned (.int .i64 (atE S p k)) ∧ w = w' := by
  have H1 := Lib.hid (rmay_any h p)
  rcases atE_cases S p k with ⟨he, hm⟩ | ⟨q, rfl, hq, hh, hm, ⟨he, h1⟩ | ⟨he, j, rfl, hj, hz⟩⟩
  · rw [he]
    rw [hm] at H1
    clear he hm h
    go_enter Try.func49, Try.ntmps49
    go_wp2_with fail
    refine H1.out.mono ?_
    rintro e w' ⟨rfl, rfl⟩
    go_wp2
    go_ret
    exact ⟨rfl, rfl⟩
  · rw [he]
    rw [hm] at H1
    rcases h1 with h1 | h1 | ⟨j, rfl, hj, hz⟩
    · clear he hm h hh
      go_enter Try.func49, Try.ntmps49
      go_wp2_with fail
      refine H1.out.mono ?_
      rintro e w' ⟨rfl, rfl⟩
      go_wp2
      go_ret
      exact ⟨rfl, rfl⟩
    · have h2 : ¬ (k < 0) := by omega
      clear he hm h hh
      go_enter Try.func49, Try.ntmps49
      go_wp2_with fail
      refine H1.out.mono ?_
      rintro e w' ⟨rfl, rfl⟩
      go_wp2
      go_ret
      exact ⟨rfl, rfl⟩
    · have hc := h.cellF hq hj
      rw [hz] at hc
      have h2 : ¬ ((j : Int) < 0) := by omega
      have h3 : ¬ ((j : Int) ≥ 8) := by omega
      have h4 : (q : Int) < 6 := by omega
      clear he hm h hh hz
      go_enter Try.func49, Try.ntmps49
      go_wp2_with fail
      refine H1.out.mono ?_
      rintro e w' ⟨rfl, rfl⟩
      go_wp2
      go_ret
      exact ⟨rfl, rfl⟩
  · rw [he]
    rw [hm] at H1
    have hc := h.cellF hq hj
    have hz2 : ((S.fd q j : Int) == 0) = false := by simp; omega
    have h2 : ¬ ((j : Int) < 0) := by omega
    have h3 : ¬ ((j : Int) ≥ 8) := by omega
    have h4 : (q : Int) < 6 := by omega
    clear he hm h hh hz
    go_enter Try.func49, Try.ntmps49
    go_wp2_with fail
    refine H1.out.mono ?_
    rintro e w' ⟨rfl, rfl⟩
    go_wp2
    go_ret
    exact ⟨rfl, rfl⟩
end
end Go.Proofs.Ytdiginkpclbmdaa
