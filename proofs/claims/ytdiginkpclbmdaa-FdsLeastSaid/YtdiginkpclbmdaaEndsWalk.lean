/- The walk of the law FdsEnds. -/
import Derived.Test.YtdiginkpclbmdaaEnds
namespace Go.Proofs.Ytdiginkpclbmdaa
open Go.RowKit
attribute [local go_sem] cell_alloc_some frozen_alloc_some
section
variable {a w : World} {T : Nat} {S : St} {G : Nat → Prop}
theorem One.begin (h : One a w T S G) (p : Int) : Calls Try.prog 11 #[.pointer (some ⟨T, 0, none⟩), .int .i64 p] w fun e w' => e = .returned (.int .i64 (freshE S p)) ∧ One a w' T (beginS S p) G :=
  h.step (fun _ _ _ h _ => begin_any h p)
theorem One.end_ (h : One a w T S G) (p : Int) : Calls Try.prog 12 #[.pointer (some ⟨T, 0, none⟩), .int .i64 p] w fun e w' => (∃ v, e = .returned (.tuple #[v, .int .i64 (mayE S p)]) ∧ Opens w' v (endO S p)) ∧ One a w' T (endS S p) G :=
  h.step (Q := fun e w' => ∃ v, e = .returned (.tuple #[v, .int .i64 (mayE S p)]) ∧ Opens w' v (endO S p)) (fun _ _ _ h hF => by
    refine (end_any h hF p).mono ?_
    rintro e w' ⟨⟨v, rfl, ho⟩, h1, h2⟩
    exact ⟨⟨v, rfl, ownsRow_slc ho⟩, h1, h2⟩)
theorem One.fork (h : One a w T S G) (p q : Int) : Calls Try.prog 13 #[.pointer (some ⟨T, 0, none⟩), .int .i64 p, .int .i64 q] w fun e w' => e = .returned (.int .i64 (forkE S p q)) ∧ One a w' T (forkS S p q) G :=
  h.step (fun _ _ _ h _ => fork_any h p q)
theorem One.open_ (h : One a w T S G) (p : Int) (o : Op3) : Calls Try.prog 14 #[.pointer (some ⟨T, 0, none⟩), .int .i64 p, opv o] w fun e w' => e = .returned (.tuple #[.int .i64 (openE S p o).1, .int .i64 (openE S p o).2]) ∧ One a w' T (openS S p o) G :=
  h.step (fun _ _ _ h _ => open_any h p o)
theorem One.dup (h : One a w T S G) (p k : Int) : Calls Try.prog 15 #[.pointer (some ⟨T, 0, none⟩), .int .i64 p, .int .i64 k] w fun e w' => e = .returned (.tuple #[.int .i64 (dupE S p k).1, .int .i64 (dupE S p k).2]) ∧ One a w' T (dupS S p k) G :=
  h.step (fun _ _ _ h _ => dup_any h p k)
theorem One.close (h : One a w T S G) (p k : Int) : Calls Try.prog 16 #[.pointer (some ⟨T, 0, none⟩), .int .i64 p, .int .i64 k] w fun e w' => e = .returned (.tuple #[opv (closeE S p k).1, .bool (closeE S p k).2, .int .i64 (atE S p k)]) ∧ One a w' T (closeS S p k) G :=
  h.step (fun _ _ _ h hF => close_any h hF p k)
end
/-- what the loop keeps -/
def Told (w wr : World) (T : Nat) (x t : Nat) : Prop := ∃ S, One w wr T S none_ ∧ t + liveC S = x
set_option maxRecDepth 100000 in
set_option maxHeartbeats 2000000 in
theorem ends_all (w : World) (v : Value) (ds : List Deed) (hd : Deeds w v ds) :
    Calls Try.prog 3 #[v] w fun e w' => e = .returned (.bool true) ∧ Keep none_ w w' := by
  have H0 := Lib.hid (One.new w (Keep.refl none_ w))
  have HD := Lib.hid hd
  obtain ⟨A, n, cap, rfl, hn, hn63⟩ : ∃ A n cap, v = .slice A n cap ∧ n = ds.length ∧ n ≤ 9223372036854775807 := by
    rcases hd with ⟨rfl, rfl⟩ | ⟨a, cap, rfl, hl, _⟩
    · exact ⟨none, 0, 0, rfl, rfl, by omega⟩
    · exact ⟨_, _, cap, rfl, rfl, by unfold maxLen at hl; omega⟩
  have HN := Lib.hid hn
  clear hd hn
  go_enter Try.func3, Try.ntmps3
  go_wp2_with fail
  refine H0.out.mono ?_
  rintro e w1 ⟨T, rfl, h1⟩
  have HL := Lib.hid (live_any w1)
  have H1 := Lib.hid h1
  clear h1 H0
  go_wp2_with fail
  refine HL.out.mono ?_
  rintro e w2 ⟨rfl, hk2⟩
  have hb := (H1.out.keep0 hk2).begin 0
  rw [live_plain.1] at hb
  have HB := Lib.hid hb
  clear hb hk2 H1 HL
  go_wp2_with fail
  refine HB.out.mono ?_
  rintro e w3 ⟨rfl, h4⟩
  have H4 : Hid (Told w w3 T 0 0) := ⟨_, h4, by rw [lc_begin]; rfl⟩
  clear h4 HB
  go_wp2
  go_loopw [4, 5, 6] (fun x t i wr => ∃ k xn tn : Nat, k ≤ n ∧ k ≤ 50 ∧ xn ≤ k ∧ tn ≤ xn ∧ i = .int .i64 k ∧ x = .int .i64 xn ∧ t = .int .i64 tn ∧ Hid (Told w wr T xn tn)) (fun _ _ i _ => 50 - (intOf i).toNat)
  case atStart => exact ⟨0, 0, 0, by omega, by omega, by omega, by omega, rfl, rfl, rfl, H4⟩
  case round =>
    obtain ⟨k, xn, tn, hk, hk50, hxk, htx, rfl, rfl, rfl, HK⟩ := hrel
    by_cases hkn : k < n
    · by_cases hk2 : k < 50
      · have i0 : (0 : Int) ≤ (k : Int) := by omega
        have i1 : (k : Int) < (n : Int) := by omega
        have i2 : (k : Int) < 50 := by omega
        obtain ⟨S, hS, hsum⟩ := HK.out
        have hds := HD.out.keep hS.keep
        obtain ⟨d, hdk⟩ : ∃ d, ds[k]? = some d := ⟨_, List.getElem?_eq_getElem (by have := HN.out; omega)⟩
        rcases hds with ⟨h0, _⟩ | ⟨ad, cap', he, _, hc⟩
        · rw [h0] at hdk; simp at hdk
        · injection he with e1 e2 e3
          subst e1
          obtain ⟨c0, c1, c2, c3, c4, c5, c6⟩ := deed_cells (hc k d hdk)
          obtain ⟨op, p, q, j, o⟩ := d
          have hS2 := hS.keep0 ((Keep.refl _ wr).alloc (.cells #[.int .i64 op, .int .i64 p, .int .i64 q, .int .i64 j, .int .u8 o.kind, .int .i64 o.ref, .int .i64 o.pos] 32))
          simp only at c0 c1 c2 c3 c4 c5 c6
          have HS := Lib.hid hsum
          have HI := Lib.hid hS.inv
          clear hc e2 e3 hdk HK
          by_cases h0 : op = 0
          · subst h0
            have HB := Lib.hid (hS2.begin p)
            clear hS2 hS hsum
            go_wp2_with fail
            refine Calls.mono (by exact HB.out) ?_
            rintro e w4 ⟨rfl, h5⟩
            have H5 : Hid (Told w w4 T xn tn) := ⟨_, h5, by rw [lc_begin]; exact HS.out⟩
            clear h5 HB c0 c1 c2 c3 c4 c5 c6
            go_wp2
            go_roundw
            case rel => exact ⟨k + 1, xn, tn, by omega, by omega, by omega, by omega, by go_num, rfl, rfl, H5⟩
            case measure => simp [intOf]; omega
          by_cases h1 : op = 1
          · subst h1
            have HB := Lib.hid (hS2.end_ p)
            clear hS2 hS hsum h0
            go_wp2_with fail
            refine Calls.mono (by exact HB.out) ?_
            rintro e w4 ⟨⟨v, rfl, A', cap', rfl, _⟩, h5⟩
            have hsum := lc_end S HI.out p
            have hS0 := HS.out
            obtain ⟨m, hm⟩ : ∃ m, m = (endO S p).length := ⟨_, rfl⟩
            rw [← hm] at hsum ⊢
            have htm : tn + m ≤ xn := by omega
            have H5 : Hid (Told w w4 T xn (tn + m)) := ⟨_, h5, by omega⟩
            clear h5 HB c0 c1 c2 c3 c4 c5 c6 hsum hS0 hm
            go_wp2
            go_roundw
            case rel => exact ⟨k + 1, xn, tn + m, by omega, by omega, by omega, by omega, by go_num, rfl, by go_num, H5⟩
            case measure => simp [intOf]; omega
          by_cases h2 : op = 2
          · subst h2
            have HB := Lib.hid (hS2.fork p q)
            clear hS2 hS hsum h0 h1
            go_wp2_with fail
            refine Calls.mono (by exact HB.out) ?_
            rintro e w4 ⟨rfl, h5⟩
            have H5 : Hid (Told w w4 T xn tn) := ⟨_, h5, by rw [lc_fork S HI.out]; exact HS.out⟩
            clear h5 HB c0 c1 c2 c3 c4 c5 c6
            go_wp2
            go_roundw
            case rel => exact ⟨k + 1, xn, tn, by omega, by omega, by omega, by omega, by go_num, rfl, rfl, H5⟩
            case measure => simp [intOf]; omega
          by_cases h3 : op = 3
          · subst h3
            have hB := hS2.open_ p o
            have hO := lc_open S HI.out p o
            by_cases hok : (openE S p o).2 = 0
            · rw [if_pos hok] at hO
              rw [hok] at hB
              generalize (openE S p o).1 = oe at hB
              have HB := Lib.hid hB
              have HO := Lib.hid hO
              unfold opv at HB
              clear hS2 hS hsum h0 h1 h2 hB hO hok
              go_wp2_with fail
              refine Calls.mono (by exact HB.out) ?_
              rintro e w4 ⟨rfl, h5⟩
              have H5 : Hid (Told w w4 T (xn + 1) tn) := ⟨_, h5, by have := HO.out; have := HS.out; omega⟩
              clear h5 HB c0 c1 c2 c3 c4 c5 c6 HO
              go_wp2
              go_roundw
              case rel => exact ⟨k + 1, xn + 1, tn, by omega, by omega, by omega, by omega, by go_num, by go_num, rfl, H5⟩
              case measure => simp [intOf]; omega
            · rw [if_neg hok] at hO
              have hne : ((openE S p o).2 == 0) = false := by simpa using hok
              generalize openE S p o = oe at hB hne
              have HB := Lib.hid hB
              have HO := Lib.hid hO
              unfold opv at HB
              clear hS2 hS hsum h0 h1 h2 hB hO hok
              go_wp2_with fail
              refine Calls.mono (by exact HB.out) ?_
              rintro e w4 ⟨rfl, h5⟩
              have H5 : Hid (Told w w4 T xn tn) := ⟨_, h5, by have := HO.out; have := HS.out; omega⟩
              clear h5 HB c0 c1 c2 c3 c4 c5 c6 HO
              go_wp2
              go_roundw
              case rel => exact ⟨k + 1, xn, tn, by omega, by omega, by omega, by omega, by go_num, rfl, rfl, H5⟩
              case measure => simp [intOf]; omega
          by_cases h4 : op = 4
          · subst h4
            have HB := Lib.hid (hS2.dup p j)
            clear hS2 hS hsum h0 h1 h2 h3
            go_wp2_with fail
            refine Calls.mono (by exact HB.out) ?_
            rintro e w4 ⟨rfl, h5⟩
            have H5 : Hid (Told w w4 T xn tn) := ⟨_, h5, by rw [lc_dup S]; exact HS.out⟩
            clear h5 HB c0 c1 c2 c3 c4 c5 c6
            go_wp2
            go_roundw
            case rel => exact ⟨k + 1, xn, tn, by omega, by omega, by omega, by omega, by go_num, rfl, rfl, H5⟩
            case measure => simp [intOf]; omega
          by_cases h5 : op = 5
          · subst h5
            have hB := hS2.close p j
            have hO := lc_close S HI.out p j
            cases hok : (closeE S p j).2 with
            | true =>
              rw [if_pos hok] at hO
              rw [hok] at hB
              generalize (closeE S p j).1 = oe at hB
              generalize atE S p j = er at hB
              have HB := Lib.hid hB
              have HO := Lib.hid hO
              unfold opv at HB
              have htx2 : tn + 1 ≤ xn := by have := HS.out; omega
              clear hS2 hS hsum h0 h1 h2 h3 h4 hB hO hok
              go_wp2_with fail
              refine Calls.mono (by exact HB.out) ?_
              rintro e w4 ⟨rfl, h5⟩
              have H5 : Hid (Told w (w4.alloc (.cells #[.int .u8 oe.kind, .int .i64 oe.ref, .int .i64 oe.pos] 30)) T xn (tn + 1)) := ⟨_, h5.keep0 ((Keep.refl _ w4).alloc _), by have := HO.out; have := HS.out; omega⟩
              clear h5 HB c0 c1 c2 c3 c4 c5 c6 HO
              go_wp2
              go_roundw
              case rel => exact ⟨k + 1, xn, tn + 1, by omega, by omega, by omega, by omega, by go_num, rfl, by go_num, H5⟩
              case measure => simp [intOf]; omega
            | false =>
              rw [if_neg (by rw [hok]; decide)] at hO
              rw [hok] at hB
              generalize (closeE S p j).1 = oe at hB
              generalize atE S p j = er at hB
              have HB := Lib.hid hB
              have HO := Lib.hid hO
              unfold opv at HB
              clear hS2 hS hsum h0 h1 h2 h3 h4 hB hO hok
              go_wp2_with fail
              refine Calls.mono (by exact HB.out) ?_
              rintro e w4 ⟨rfl, h5⟩
              have H5 : Hid (Told w (w4.alloc (.cells #[.int .u8 oe.kind, .int .i64 oe.ref, .int .i64 oe.pos] 30)) T xn tn) := ⟨_, h5.keep0 ((Keep.refl _ w4).alloc _), by have := HO.out; have := HS.out; omega⟩
              clear h5 HB c0 c1 c2 c3 c4 c5 c6 HO
              go_wp2
              go_roundw
              case rel => exact ⟨k + 1, xn, tn, by omega, by omega, by omega, by omega, by go_num, rfl, rfl, H5⟩
              case measure => simp [intOf]; omega
          have e0 : (op == 0) = false := by simpa using h0
          have e1 : (op == 1) = false := by simpa using h1
          have e2 : (op == 2) = false := by simpa using h2
          have e3 : (op == 3) = false := by simpa using h3
          have e4 : (op == 4) = false := by simpa using h4
          have e5 : (op == 5) = false := by simpa using h5
          have H5 : Hid (Told w (wr.alloc (.cells #[.int .i64 op, .int .i64 p, .int .i64 q, .int .i64 j, .int .u8 o.kind, .int .i64 o.ref, .int .i64 o.pos] 32)) T xn tn) := ⟨_, hS2, hsum⟩
          clear hS2 hS hsum h0 h1 h2 h3 h4 h5
          go_wp2
          go_roundw
          case rel => exact ⟨k + 1, xn, tn, by omega, by omega, by omega, by omega, by go_num, rfl, rfl, H5⟩
          case measure => simp [intOf]; omega
      · have i1 : (k : Int) < (n : Int) := by omega
        have i2 : ¬ (k : Int) < 50 := by omega
        go_wp2
        obtain ⟨S, hS, hsum⟩ := HK.out
        have H6 : Hid (∃ S, One w wr T S none_ ∧ tn + liveC S = xn ∧ ∀ x k, x < 0 → k < 8 → S.fd x k = 0) := ⟨S, hS, hsum, fun x k hx => by omega⟩
        clear hS hsum HK
        go_loopw [5, 15] (fun t i wr => ∃ p tn : Nat, p ≤ 6 ∧ tn ≤ xn ∧ i = .int .i64 p ∧ t = .int .i64 tn ∧ Hid (∃ S, One w wr T S none_ ∧ tn + liveC S = xn ∧ ∀ x k, x < p → k < 8 → S.fd x k = 0)) (fun _ i _ => 6 - (intOf i).toNat)
        case atStart => exact ⟨0, tn, by omega, by omega, rfl, rfl, H6⟩
        case round =>
          obtain ⟨p, tn, hp, htx, rfl, rfl, HP⟩ := hrel
          by_cases hp6 : p < 6
          · have i3 : (p : Int) < 6 := by omega
            obtain ⟨S, hS, hsum, hz⟩ := HP.out
            have HS := Lib.hid hS
            have HSUM := Lib.hid hsum
            have HZ := Lib.hid hz
            have HB := Lib.hid (hS.end_ p)
            clear hS hsum hz HP
            go_wp2_with fail
            refine HB.out.mono ?_
            rintro e w4 ⟨⟨v, rfl, A', cap', rfl, _⟩, h5⟩
            have hsum := lc_end S HS.out.inv p
            have hS0 := HSUM.out
            have he := end_zero S HS.out.inv hp6
            obtain ⟨m, hm⟩ : ∃ m, m = (endO S p).length := ⟨_, rfl⟩
            rw [← hm] at hsum ⊢
            have htm : tn + m ≤ xn := by omega
            have H5 : Hid (∃ S, One w w4 T S none_ ∧ (tn + m) + liveC S = xn ∧ ∀ x k, x < p + 1 → k < 8 → S.fd x k = 0) := ⟨_, h5, by omega, fun x k hx hk => by
              by_cases e : x = p
              · subst e; exact he.1 k hk
              · exact he.2 x k (HZ.out x k (by omega) hk)⟩
            clear h5 HB hsum hS0 hm he HS HSUM HZ
            go_wp2
            go_roundw
            case rel => exact ⟨p + 1, tn + m, by omega, by omega, by go_num, by go_num, H5⟩
            case measure => simp [intOf]; omega
          · obtain ⟨S, hS, hsum, hz⟩ := HP.out
            have hl := lc_zero S (fun x k hx hk => hz x k (by omega) hk)
            obtain rfl : tn = xn := by omega
            have HF := Lib.hid hS.keep
            clear hS hsum hz hl HP
            go_wp2
            go_ret
            exact ⟨by simp, HF.out⟩
    · have i1 : ¬ (k : Int) < (n : Int) := by omega
      go_wp2
      obtain ⟨S, hS, hsum⟩ := HK.out
      have H6 : Hid (∃ S, One w wr T S none_ ∧ tn + liveC S = xn ∧ ∀ x k, x < 0 → k < 8 → S.fd x k = 0) := ⟨S, hS, hsum, fun x k hx => by omega⟩
      clear hS hsum HK
      go_loopw [5, 15] (fun t i wr => ∃ p tn : Nat, p ≤ 6 ∧ tn ≤ xn ∧ i = .int .i64 p ∧ t = .int .i64 tn ∧ Hid (∃ S, One w wr T S none_ ∧ tn + liveC S = xn ∧ ∀ x k, x < p → k < 8 → S.fd x k = 0)) (fun _ i _ => 6 - (intOf i).toNat)
      case atStart => exact ⟨0, tn, by omega, by omega, rfl, rfl, H6⟩
      case round =>
        obtain ⟨p, tn, hp, htx, rfl, rfl, HP⟩ := hrel
        by_cases hp6 : p < 6
        · have i3 : (p : Int) < 6 := by omega
          obtain ⟨S, hS, hsum, hz⟩ := HP.out
          have HS := Lib.hid hS
          have HSUM := Lib.hid hsum
          have HZ := Lib.hid hz
          have HB := Lib.hid (hS.end_ p)
          clear hS hsum hz HP
          go_wp2_with fail
          refine HB.out.mono ?_
          rintro e w4 ⟨⟨v, rfl, A', cap', rfl, _⟩, h5⟩
          have hsum := lc_end S HS.out.inv p
          have hS0 := HSUM.out
          have he := end_zero S HS.out.inv hp6
          obtain ⟨m, hm⟩ : ∃ m, m = (endO S p).length := ⟨_, rfl⟩
          rw [← hm] at hsum ⊢
          have htm : tn + m ≤ xn := by omega
          have H5 : Hid (∃ S, One w w4 T S none_ ∧ (tn + m) + liveC S = xn ∧ ∀ x k, x < p + 1 → k < 8 → S.fd x k = 0) := ⟨_, h5, by omega, fun x k hx hk => by
            by_cases e : x = p
            · subst e; exact he.1 k hk
            · exact he.2 x k (HZ.out x k (by omega) hk)⟩
          clear h5 HB hsum hS0 hm he HS HSUM HZ
          go_wp2
          go_roundw
          case rel => exact ⟨p + 1, tn + m, by omega, by omega, by go_num, by go_num, H5⟩
          case measure => simp [intOf]; omega
        · obtain ⟨S, hS, hsum, hz⟩ := HP.out
          have hl := lc_zero S (fun x k hx hk => hz x k (by omega) hk)
          obtain rfl : tn = xn := by omega
          have HF := Lib.hid hS.keep
          clear hS hsum hz hl HP
          go_wp2
          go_ret
          exact ⟨by simp, HF.out⟩
end Go.Proofs.Ytdiginkpclbmdaa
