/- The iterator children$1 of proc: over the children of a process, rising, whatever the body does that keeps what lay. -/
import Derived.Test.YtjibbdnmobaeiaaLeaves
import Derived.RangeFuncNested
import Derived.RangeFuncBound
import Derived.RangeFuncCalls
import Derived.RangeFuncLeaves
import Derived.RangeFuncFrom
import Derived.Shelf.Abstract
import Derived.Shelf.RegionOpen
import Derived.OwnWalkIn
import Derived.TacticsInMore
import Derived.LoopNIn
import Derived.LoopIn
import Derived.Deep.RegionHeld3
namespace Go.Proofs.Ytjibbdnmobaeiaa
open Go.RowKit Go.Shelf
attribute [local go_sem] Oper.semAt_some
/-- the children of p -/
def PS.isKid : PS → Int → Bool
  | .no, _ => false
  | .living q, p => q == p
  | .ended q _, p => q == p
theorem PS.isKid_ne {s : PS} (h : s ≠ .no) (p : Int) : s.isKid p = (s.parent == p) := by cases s <;> simp_all [PS.isKid, PS.parent]
def kid (c : Nat → PS) (p : Int) (j : Nat) : Bool := (c j).isKid p
def kids (c : Nat → PS) (p : Int) (k : Nat) : List Nat := (List.range k).filter fun j => decide (1 ≤ j) && kid c p j
theorem kids_succ (c : Nat → PS) (p : Int) (k : Nat) (hk : 1 ≤ k) : kids c p (k + 1) = kids c p k ++ (if kid c p k then [k] else []) := by
  unfold kids
  rw [List.range_succ, List.filter_append]
  simp [hk, List.filter_cons]
theorem kids_one (c : Nat → PS) (p : Int) : kids c p 1 = [] := rfl
theorem kids_pre (c : Nat → PS) (p : Int) {k : Nat} (hk : k < 6) (h1 : 1 ≤ k) (h : kid c p k = true) : kids c p k ++ [k] <+: kids c p 6 := by
  have key : ∀ m k, 1 ≤ k → kids c p k <+: kids c p (k + m) := by
    intro m; induction m with
    | zero => intro k _; exact List.prefix_refl _
    | succ m ih => intro k h1; have := ih (k + 1) (by omega); rw [show k + 1 + m = k + (m + 1) by omega] at this; refine List.IsPrefix.trans ?_ this; rw [kids_succ c p k h1]; exact List.prefix_append _ _
  have := key (6 - (k + 1)) (k + 1) (by omega)
  rw [show k + 1 + (6 - (k + 1)) = 6 by omega, kids_succ c p k h1, h] at this
  simpa using this

theorem neg34 (s : PS) (w : World) : (eqGuard .neq 34 (.tmp 11) (.const .nilIface) s.enc .nilIface).run Try.prog w = .ok () w := by
  cases s <;> kernel_rfl
theorem neq34 (s : PS) (b : Bool) (h : (match s with | .no => false | _ => true) = b) (w : World) : (binOp .neq 34 s.enc .nilIface).run Try.prog w = .ok (.bool b) w := by
  cases h; cases s <;> kernel_rfl
set_option maxRecDepth 100000 in
set_option maxHeartbeats 1000000 in
theorem kids_in (l Bt Bp n₀ t : Nat) (p : Int) (c : Nat → PS) (J Jx : List Nat → World → Prop) (n : Nat) (hn : 2 ≤ n)
    (hY : ∀ pre x W, J pre W → pre ++ [x] <+: kids c p 6 → YieldAt Fence.wide (n - 1) Try.prog l #[.int .i64 (x : Nat)] W fun e W' =>
      (e = .returned (.bool true) ∧ J (pre ++ [x]) W' ∧ Below n₀ W W') ∨ (e = .returned (.bool false) ∧ Jx (pre ++ [x]) W'))
    (W : World) (hJb : AbidesFrom W.heap.size J) (hbt : Bt < n₀) (hbpn : Bp < n₀) (htn : t < n₀) (hcb : W.cell? ⟨Bt, 0, none⟩ = some (.pointer (some ⟨t, 0, none⟩))) (hcp : W.cell? ⟨Bp, 0, none⟩ = some (.int .i64 p)) (ht : Tab W t c) (h0 : J [] W) :
    CallsIn Fence.wide n Try.prog 13 #[.func (.yield l) #[] #[], .pointer (some ⟨Bt, 0, none⟩), .pointer (some ⟨Bp, 0, none⟩)] W fun e W' => (∃ v, e = .returned v) ∧
      ((∃ ys, ys = kids c p 6 ∧ J ys W') ∨ (∃ pre, pre <+: kids c p 6 ∧ Jx pre W')) := by
  have hF : ∀ f, Fence.wide.fn f := fun _ => trivial
  have hn1 : 1 ≤ n := by omega
  refine callsIn_of_wp Try.func13 rfl trivial ?_ rfl
  simp only [Try.ntmps13, List.size_toArray, List.length_cons, List.length_nil, Nat.reduceAdd, Nat.reduceSub, Array.replicate_succ, Array.replicate_zero, List.push_toArray, List.append_toArray, List.nil_append, List.cons_append]
  gi_wp2
  gi_loopw [4] (fun v wr => ∃ k : Nat, 1 ≤ k ∧ k ≤ 6 ∧ v = .int .i64 k ∧ J (kids c p k) wr ∧ wr.cell? ⟨Bt, 0, none⟩ = some (.pointer (some ⟨t, 0, none⟩)) ∧ wr.cell? ⟨Bp, 0, none⟩ = some (.int .i64 p) ∧ Tab wr t c ∧ W.heap.size ≤ wr.heap.size) (fun v _ => 6 - (intOf v).toNat)
  case atStart => exact ⟨1, by omega, by omega, rfl, h0, hcb, hcp, ht, Nat.le_refl _⟩
  case round =>
    obtain ⟨k, hk1, hk6, rfl, hJ, hb1, hp1, ht1, hsz⟩ := hrel
    have HT := Lib.hid ht1; clear ht1
    by_cases hlt : k < 6
    · have hck := HT.out.cell hlt
      have hlt1 := World.block_lt_of_cell? wr _ hp1
      have hlt2 := World.block_lt_of_cell? wr _ hb1
      have hlt3 := HT.out.lt
      have jk : ∀ (pre : List Nat) (A B : World), J pre A → Below A.heap.size A B → J pre B := fun pre A B hj hb =>
        hJb pre A B none hj ⟨hb.os, hb.tape, hb.output, hb.size, fun q hq _ => hb.block q hq⟩ (fun r e => by cases e)
      have HJK := Lib.hid jk; clear jk
      have HS := Lib.hid (kids_succ c p k hk1)
      have HP := Lib.hid (kids_pre c p hlt hk1)
      obtain ⟨s, hs⟩ : ∃ s, s = c k := ⟨_, rfl⟩
      have HK : Hid (kid c p k = s.isKid p) := by rw [hs]; exact Lib.hid rfl
      rw [← hs] at hck
      have HSK := Lib.hid hs; clear hs
      have hg := neg34 s
      by_cases hno : s = .no
      · subst hno
        have hn := neq34 .no false rfl
        gi_wp2
        first
          | gi_region_with (gi_at_call 12; refine (callsIn_wide.2 (at_in _ _ _ _ hlt (by exact hck))).mono ?_; rintro e w' ⟨rfl, rfl⟩)
          | fail "region"
        all_goals gi_wp2
        all_goals
          go_roundw
          case rel => exact ⟨k + 1, by omega, by omega, by go_num, by rw [HS.out, HK.out]; simpa [PS.isKid] using HJK.out _ _ _ hJ (Below.refl _ _).drew, hb1, hp1, HT.out.drew, hsz⟩
          case measure => simp [intOf]; omega
      · have hn := neq34 s true (by cases s <;> simp_all)
        have HK' : Hid (kid c p k = (s.parent == p)) := by rw [← PS.isKid_ne hno]; exact HK
        clear hno HK
        by_cases hpp : s.parent = p
        · have hbp : (s.parent == p) = true := by simp [hpp]
          clear hpp
          have HKL := Lib.hid (HP.out (by rw [HK'.out, hbp]))
          have HY := Lib.hid hY
          have HM : Hid (∀ A, J (kids c p k) A → YieldAt Fence.wide (n - 1) Try.prog l #[.int .i64 k] A fun e W' => ∃ b, e = .returned (.bool b) ∧ Hid (if b = true then J (kids c p k ++ [k]) W' ∧ Below n₀ A W' else Jx (kids c p k ++ [k]) W')) := by
            intro A hA
            refine YieldAt.mono (HY.out _ k A hA HKL.out) ?_
            rintro e W' (⟨rfl, h1, h2⟩ | ⟨rfl, h1⟩)
            · exact ⟨true, rfl, ⟨h1, h2⟩⟩
            · exact ⟨false, rfl, by simpa [Hid] using h1⟩
          clear hY
          gi_wp2
          first
            | gi_region_with (first
                | (gi_at_call 12; refine (callsIn_wide.2 (at_in _ _ _ _ hlt (by exact hck))).mono ?_; rintro e w' ⟨rfl, rfl⟩)
                | (gi_at_call 14; refine (callsIn_wide.2 (parent_in _ _ s _ hlt (by exact hck))).mono ?_; rintro e w' ⟨rfl, hb⟩; have hp2 := (hb.cell (p := ⟨Bp, 0, none⟩) hlt1).trans hp1; have hb2 := (hb.cell (p := ⟨Bt, 0, none⟩) hlt2).trans hb1; have hJ2 := HJK.out _ _ _ hJ ((Below.refl _ _).drew.trans hb); obtain ⟨fn, tmps, assign, body, hy, hR⟩ := HM.out w' hJ2)
                | (refine hR.mono ?_; rintro e W2 ⟨b, rfl, hbb⟩))
            | fail "region"
          all_goals cases b
          all_goals gi_wp2
          all_goals first
            | (refine bodyPost_ret (results_none rfl _ _ _) rfl ?_
               exact ⟨⟨_, rfl⟩, .inr ⟨_, HP.out (by rw [HK'.out, hbp]), by simpa [Hid] using hbb⟩⟩)
            | (obtain ⟨hJ3, hb3⟩ : J (kids c p k ++ [k]) W2 ∧ Below n₀ w' W2 := hbb
               go_roundw
               case rel => exact ⟨k + 1, by omega, by omega, by go_num, by rw [HS.out, HK'.out, hbp]; exact hJ3, (hb3.cell (p := ⟨Bt, 0, none⟩) hbt).trans hb2, (hb3.cell (p := ⟨Bp, 0, none⟩) hbpn).trans hp2, (HT.out.drew.below hb hlt3).below hb3 htn, Nat.le_trans hsz (Nat.le_trans hb.size hb3.size)⟩
               case measure => simp [intOf]; omega)
        · have hbp : (s.parent == p) = false := by simp [hpp]
          clear hpp
          gi_wp2
          first
            | gi_region_with (first
                | (gi_at_call 12; refine (callsIn_wide.2 (at_in _ _ _ _ hlt (by exact hck))).mono ?_; rintro e w' ⟨rfl, rfl⟩)
                | (gi_at_call 14; refine (callsIn_wide.2 (parent_in _ _ s _ hlt (by exact hck))).mono ?_; rintro e w' ⟨rfl, hb⟩; have hp2 := (hb.cell (p := ⟨Bp, 0, none⟩) hlt1).trans hp1; have hb2 := (hb.cell (p := ⟨Bt, 0, none⟩) hlt2).trans hb1))
            | fail "region"
          all_goals gi_wp2
          all_goals
            go_roundw
            case rel => exact ⟨k + 1, by omega, by omega, by go_num, by rw [HS.out, HK'.out, hbp]; simpa using HJK.out _ _ _ hJ ((Below.refl _ _).drew.trans hb), hb2, hp2, HT.out.drew.below hb hlt3, Nat.le_trans hsz hb.size⟩
            case measure => simp [intOf]; omega
    · obtain rfl : k = 6 := by omega
      gi_wp2
      go_end0
      exact ⟨⟨_, rfl⟩, .inl ⟨_, rfl, hJ⟩⟩
end Go.Proofs.Ytjibbdnmobaeiaa
