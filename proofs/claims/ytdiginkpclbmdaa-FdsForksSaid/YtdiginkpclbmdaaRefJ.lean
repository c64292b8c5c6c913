/- The walks of the document's New, SameInts, SameOpens. -/
import Derived.Test.YtdiginkpclbmdaaRefI
namespace Go.Proofs.Ytdiginkpclbmdaa
open Go.RowKit
attribute [local go_sem] cell_alloc_some frozen_alloc_some
set_option maxHeartbeats 1000000 in
theorem rnew_any (w : World) :
    Calls Try.prog 32 #[] w fun e w' => ∃ R, e = .returned (.pointer (some ⟨R, 0, none⟩)) ∧ RepR w' R St.init (.slice none 0 0) (fun b => b = w.heap.size) ∧ Keep (fun _ => False) w w' ∧ w'.heap.size = w.heap.size + 1 := by
  have hR : Hid (∀ cs : Array Value, cs.toList = row 55 (rcell St.init (.slice none 0 0)) → RepR (w.alloc (.cells cs 84)) w.heap.size St.init (.slice none 0 0) (fun b => b = w.heap.size)) := fun cs hcs =>
    ⟨St.Inv.init, by have := Blk.new w 84 cs.toList; rw [hcs] at this; have e : (row 55 (rcell St.init (.slice none 0 0))).toArray = cs := by rw [← hcs]
                     rw [e] at this; exact this, World.ownsRow_nil .., rfl, fun g hg => by simp [Value.ownBlock] at hg⟩
  go_enter Try.func32, Try.ntmps32
  go_wp2
  go_ret
  refine ⟨_, rfl, hR.out _ (by kernel_rfl), (Keep.refl _ w).alloc _, by simp⟩
/-- the slice value v holds the n·size cells news -/
def Slc (w : World) (v : Value) (n : Nat) (news : List Value) : Prop :=
  ∃ A cap, v = .slice A n cap ∧ ((A = none ∧ n = 0) ∨ ∃ g, A = some ⟨g, 0, none⟩ ∧ ∀ j u, news[j]? = some u → w.cell? ⟨g, j, none⟩ = some u)
def Ints (w : World) (v : Value) (l : List Nat) : Prop := Slc w v l.length (ints l)
def Opens (w : World) (v : Value) (l : List Op3) : Prop := Slc w v l.length (flat l)
theorem ownsRow_slc {w : World} {base e size : Nat} {v : Value} {n : Nat} {xs : List Value} (h : w.ownsRow base e size v n xs) : Slc w v n xs := by
  rcases h.2 with ⟨rfl, rfl⟩ | ⟨g, cap, cur, rfl, hg, hh, hr⟩
  · exact ⟨none, 0, rfl, .inl ⟨rfl, rfl⟩⟩
  · exact ⟨_, cap, rfl, .inr ⟨g, rfl, fun j u hu => ownsRow_cell ⟨h.1, .inr ⟨g, cap, cur, rfl, hg, hh, hr⟩⟩ hu⟩⟩
theorem Slc.keep0 {w w' : World} {v : Value} {n : Nat} {news : List Value} (h : Slc w v n news) (hb : Keep (fun _ => False) w w') : Slc w' v n news := by
  obtain ⟨A, cap, rfl, h⟩ := h
  refine ⟨A, cap, rfl, ?_⟩
  rcases h with h | ⟨g, rfl, h⟩
  · exact .inl h
  · exact .inr ⟨g, rfl, fun j u hu => by
      have h1 := h j u hu
      exact (hb.cell (World.block_lt_of_cell? w _ h1) id).trans h1⟩
theorem list_ne {α : Type} {la lb : List α} {k : Nat} {x y : α} (ha : la[k]? = some x) (hb : lb[k]? = some y) (h : x ≠ y) : la ≠ lb := by
  rintro rfl; rw [ha] at hb; exact h (by simpa using hb)
set_option maxHeartbeats 1000000 in
theorem sameInts_any (w : World) (va vb : Value) (la lb : List Nat) (ha : Ints w va la) (hb : Ints w vb lb) (h1000 : la.length ≤ 1000) :
    Calls Try.prog 33 #[va, vb] w fun e w' => e = .returned (.bool (decide (la = lb))) ∧ ∃ n, w' = w.drewN n := by
  obtain ⟨A, ca, rfl, ha⟩ := ha
  obtain ⟨B, cb, rfl, hb⟩ := hb
  by_cases hl : la.length = lb.length
  · obtain ⟨r, hr⟩ : ∃ r, r = decide (la = lb) := ⟨_, rfl⟩
    rw [← hr]
    have HR := Lib.hid hr
    have HL := Lib.hid hl
    obtain ⟨n, hn⟩ : ∃ n, n = la.length := ⟨_, rfl⟩
    rw [← hl] at hb ⊢
    rw [← hn] at h1000 ha hb ⊢
    have HN := Lib.hid hn
    clear hl hr hn
    rcases Nat.eq_zero_or_pos n with h0 | h0
    · have HR2 : Hid (r = true) := by rw [HR.out]; have := HN.out; have := HL.out; rw [List.eq_nil_of_length_eq_zero (l := la) (by omega), List.eq_nil_of_length_eq_zero (l := lb) (by omega)]; simp [Hid]
      subst h0
      clear ha hb HN HL
      go_enter Try.func33, Try.ntmps33
      go_wp2
      go_loop [5] (fun x => x = .int .i64 0) (fun _ => 0)
      case atStart => rfl
      case round =>
        subst hrel
        go_wp2
        go_ret
        exact ⟨by rw [HR2.out]; rfl, 0, rfl⟩
    · obtain ⟨ga, rfl, hA'⟩ := ha.resolve_left (by rintro ⟨_, h⟩; omega)
      obtain ⟨gb, rfl, hB'⟩ := hb.resolve_left (by rintro ⟨_, h⟩; omega)
      have HA := Lib.hid hA'; have HB := Lib.hid hB'
      clear hA' hB'
      have hgn : n ≤ 9223372036854775807 := by omega
      clear ha hb
      go_enter Try.func33, Try.ntmps33
      go_wp2
      go_loopw [5] (fun x wr => ∃ k : Nat, k ≤ n ∧ x = .int .i64 k ∧ Hid (∀ j, j < k → la[j]? = lb[j]?) ∧ Hid (∃ m, wr = w.drewN m)) (fun x _ => n - (intOf x).toNat)
      case atStart => exact ⟨0, by omega, rfl, fun j hj => by omega, 0, rfl⟩
      case round =>
        obtain ⟨k, hk, rfl, HK, HW⟩ := hrel
        obtain ⟨m, rfl⟩ := HW.out
        clear HW
        by_cases hkn : k < n
        · have i1 : (0 : Int) ≤ (k : Int) := by omega
          have i2 : (k : Int) < (n : Int) := by omega
          obtain ⟨x, hxa⟩ : ∃ x, la[k]? = some x := ⟨_, List.getElem?_eq_getElem (by have := HN.out; omega)⟩
          obtain ⟨y, hxb⟩ : ∃ y, lb[k]? = some y := ⟨_, List.getElem?_eq_getElem (by have := HN.out; have := HL.out; omega)⟩
          have hka := HA.out k _ (by unfold ints; rw [List.getElem?_map, hxa]; rfl)
          have hkb := HB.out k _ (by unfold ints; rw [List.getElem?_map, hxb]; rfl)
          have HXA := Lib.hid hxa; have HXB := Lib.hid hxb
          clear hxa hxb
          by_cases he : x = y
          · subst he
            have hq : ((x : Int) == (x : Int)) = true := by simp
            go_wp2
            go_quiet (fail)
            go_wp2
            go_roundw
            case rel => exact ⟨k + 1, by omega, by go_num, fun j hj => by
              by_cases e : j = k
              · subst e; exact HXA.out.trans HXB.out.symm
              · exact HK.out j (by omega), m + nq, rfl⟩
            case measure => simp [intOf]; omega
          · have HR2 : Hid (r = false) := by rw [HR.out]; exact decide_eq_false (list_ne HXA.out HXB.out he)
            have hq : ((x : Int) == (y : Int)) = false := by simp; omega
            have HE := Lib.hid he; clear he
            go_wp2
            go_quiet (fail)
            go_wp2
            go_ret
            exact ⟨by rw [HR2.out]; rfl, m + nq, by rw [World.drewN_drewN]⟩
        · have HR2 : Hid (r = true) := by
            rw [HR.out]; refine decide_eq_true (List.ext_getElem? fun j => ?_)
            by_cases hj : j < k
            · exact HK.out j hj
            · have := HN.out; have := HL.out
              rw [List.getElem?_eq_none (by omega), List.getElem?_eq_none (by omega)]
          go_wp2
          go_ret
          exact ⟨by rw [HR2.out]; rfl, _, rfl⟩
  · have hd : decide (la = lb) = false := decide_eq_false (fun e => hl (by rw [e]))
    rw [hd]
    have hne : ((la.length : Int) == (lb.length : Int)) = false := by simp; omega
    clear ha hb hd hl h1000
    generalize la.length = x at *
    generalize lb.length = y at *
    go_enter Try.func33, Try.ntmps33
    go_wp2
    go_ret
    exact ⟨rfl, 0, rfl⟩
theorem eq_open (x y : Op3) (w : World) : (Op.equalIn 10000 30 (opv x) (opv y)).run Try.prog w = .ok (decide (x = y)) w := by
  obtain ⟨k, r, p⟩ := x
  obtain ⟨k', r', p'⟩ := y
  unfold opv
  by_cases h1 : k = k'
  · subst h1
    by_cases h2 : r = r'
    · subst h2
      by_cases h3 : p = p'
      · subst h3
        go_simp
      · have e3 : (p == p') = false := by simpa using h3
        go_simp
    · have e3 : (r == r') = false := by simpa using h2
      go_simp
  · have e3 : (k == k') = false := by simpa using h1
    go_simp
theorem opv_ne {x y : Op3} (h : ¬ x = y) (w : World) : (Op.equalIn 10000 30 (.agg #[.int .u8 x.kind, .int .i64 x.ref, .int .i64 x.pos]) (.agg #[.int .u8 y.kind, .int .i64 y.ref, .int .i64 y.pos])).run Try.prog w = .ok false w := by
  have := eq_open x y w
  rw [decide_eq_false h] at this
  exact this
set_option maxHeartbeats 1000000 in
theorem sameOpens_any (w : World) (va vb : Value) (la lb : List Op3) (ha : Opens w va la) (hb : Opens w vb lb) (h1000 : la.length ≤ 1000) :
    Calls Try.prog 41 #[va, vb] w fun e w' => e = .returned (.bool (decide (la = lb))) ∧ ∃ n, w' = w.drewN n := by
  obtain ⟨A, ca, rfl, ha⟩ := ha
  obtain ⟨B, cb, rfl, hb⟩ := hb
  by_cases hl : la.length = lb.length
  · obtain ⟨r, hr⟩ : ∃ r, r = decide (la = lb) := ⟨_, rfl⟩
    rw [← hr]
    have HR := Lib.hid hr
    have HL := Lib.hid hl
    obtain ⟨n, hn⟩ : ∃ n, n = la.length := ⟨_, rfl⟩
    rw [← hl] at hb ⊢
    rw [← hn] at h1000 ha hb ⊢
    have HN := Lib.hid hn
    clear hl hr hn
    rcases Nat.eq_zero_or_pos n with h0 | h0
    · have HR2 : Hid (r = true) := by rw [HR.out]; have := HN.out; have := HL.out; rw [List.eq_nil_of_length_eq_zero (l := la) (by omega), List.eq_nil_of_length_eq_zero (l := lb) (by omega)]; simp [Hid]
      subst h0
      clear ha hb HN HL
      go_enter Try.func41, Try.ntmps41
      go_wp2
      go_loop [5] (fun x => x = .int .i64 0) (fun _ => 0)
      case atStart => rfl
      case round =>
        subst hrel
        go_wp2
        go_ret
        exact ⟨by rw [HR2.out]; rfl, 0, rfl⟩
    · obtain ⟨ga, rfl, hA'⟩ := ha.resolve_left (by rintro ⟨_, h⟩; omega)
      obtain ⟨gb, rfl, hB'⟩ := hb.resolve_left (by rintro ⟨_, h⟩; omega)
      have HA := Lib.hid hA'; have HB := Lib.hid hB'
      clear hA' hB'
      have hgn : n ≤ 9223372036854775807 := by omega
      clear ha hb
      go_enter Try.func41, Try.ntmps41
      go_wp2
      go_loopw [5] (fun x wr => ∃ k : Nat, k ≤ n ∧ x = .int .i64 k ∧ Hid (∀ j, j < k → la[j]? = lb[j]?) ∧ Hid (∃ m, wr = w.drewN m)) (fun x _ => n - (intOf x).toNat)
      case atStart => exact ⟨0, by omega, rfl, fun j hj => by omega, 0, rfl⟩
      case round =>
        obtain ⟨k, hk, rfl, HK, HW⟩ := hrel
        obtain ⟨m, rfl⟩ := HW.out
        clear HW
        by_cases hkn : k < n
        · have i1 : (0 : Int) ≤ (k : Int) := by omega
          have i2 : (k : Int) < (n : Int) := by omega
          obtain ⟨x, hxa⟩ : ∃ x, la[k]? = some x := ⟨_, List.getElem?_eq_getElem (by have := HN.out; omega)⟩
          obtain ⟨y, hxb⟩ : ∃ y, lb[k]? = some y := ⟨_, List.getElem?_eq_getElem (by have := HN.out; have := HL.out; omega)⟩
          obtain ⟨f0, f1, f2⟩ := flat_get _ _ _ hxa
          obtain ⟨g0, g1, g2⟩ := flat_get _ _ _ hxb
          have ka0 := HA.out _ _ f0
          have ka1 := HA.out _ _ f1
          have ka2 := HA.out _ _ f2
          have kb0 := HB.out _ _ g0
          have kb1 := HB.out _ _ g1
          have kb2 := HB.out _ _ g2
          clear f0 f1 f2 g0 g1 g2
          have HXA := Lib.hid hxa; have HXB := Lib.hid hxb
          clear hxa hxb
          by_cases he : x = y
          · subst he
            go_wp2
            go_quiet (fail)
            go_wp2
            go_roundw
            case rel => exact ⟨k + 1, by omega, by go_num, fun j hj => by
              by_cases e : j = k
              · subst e; exact HXA.out.trans HXB.out.symm
              · exact HK.out j (by omega), m + nq, rfl⟩
            case measure => simp [intOf]; omega
          · have HR2 : Hid (r = false) := by rw [HR.out]; exact decide_eq_false (list_ne HXA.out HXB.out he)
            have hq := fun w => opv_ne he w
            have HE := Lib.hid he; clear he
            go_wp2
            go_quiet (fail)
            go_wp2
            go_ret
            exact ⟨by rw [HR2.out]; rfl, m + nq, by rw [World.drewN_drewN]⟩
        · have HR2 : Hid (r = true) := by
            rw [HR.out]; refine decide_eq_true (List.ext_getElem? fun j => ?_)
            by_cases hj : j < k
            · exact HK.out j hj
            · have := HN.out; have := HL.out
              rw [List.getElem?_eq_none (by omega), List.getElem?_eq_none (by omega)]
          go_wp2
          go_ret
          exact ⟨by rw [HR2.out]; rfl, _, rfl⟩
  · have hd : decide (la = lb) = false := decide_eq_false (fun e => hl (by rw [e]))
    rw [hd]
    have hne : ((la.length : Int) == (lb.length : Int)) = false := by simp; omega
    clear ha hb hd hl h1000
    generalize la.length = x at *
    generalize lb.length = y at *
    go_enter Try.func41, Try.ntmps41
    go_wp2
    go_ret
    exact ⟨rfl, 0, rfl⟩
end Go.Proofs.Ytdiginkpclbmdaa
