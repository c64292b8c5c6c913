/- The walk of TopFamily: whatever the bytes, it returns true. -/
import Derived.Test.YtjibbdnmobaeiaaWait
import Derived.Test.YtjibbdnmobaeiaaRunning
namespace Go.Proofs.Ytjibbdnmobaeiaa
open Go.RowKit
/-- k - 1 children -/
def st1 (k : Nat) : Nat → PS := fun j => if j < k then .living 0 else .no
/-- n children, of which those above k have ended -/
def st2 (n : Nat) (h : Nat → Int) (k : Nat) : Nat → PS := fun j => if j ≤ k then .living 0 else if j ≤ n then .ended 0 (h j) else .no
/-- n children, of which those from k on have ended, and the others are no more -/
def st3 (n : Nat) (h : Nat → Int) (k : Nat) : Nat → PS := fun j => if j = 0 then .living 0 else if j < k then .no else if j ≤ n then .ended 0 (h j) else .no
theorem st1_succ (k : Nat) : upd (st1 k) k (.living 0) = st1 (k + 1) := by
  funext j; unfold upd st1; split
  · rw [if_pos (by omega)]
  · by_cases h : j < k
    · rw [if_pos h, if_pos (by omega)]
    · rw [if_neg h, if_neg (by omega)]
theorem st1_st2 (n : Nat) (h : Nat → Int) : st1 (n + 1) = st2 n h n := by
  funext j; unfold st1 st2; by_cases hj : j ≤ n
  · rw [if_pos (by omega), if_pos hj]
  · rw [if_neg (by omega), if_neg hj, if_neg hj]
theorem st2_pred (n : Nat) (h : Nat → Int) (k : Nat) (hk : k + 1 ≤ n) : upd (st2 n h (k + 1)) (k + 1) (.ended 0 (h (k + 1))) = st2 n h k := by
  funext j; unfold upd st2; split
  · rename_i e; subst e; rw [if_neg (by omega), if_pos hk]
  · by_cases hj : j ≤ k
    · rw [if_pos (by omega), if_pos hj]
    · rw [if_neg (by omega), if_neg hj]
theorem st2_st3 (n : Nat) (h : Nat → Int) : st2 n h 0 = st3 n h 1 := by
  funext j; unfold st2 st3; by_cases hj : j = 0
  · rw [if_pos (by omega), if_pos hj]
  · rw [if_neg (by omega), if_neg hj, if_neg (show ¬ j < 1 by omega)]
theorem st3_succ (n : Nat) (h : Nat → Int) (k : Nat) (hk : 1 ≤ k) : upd (st3 n h k) k .no = st3 n h (k + 1) := by
  funext j; unfold upd st3; split
  · rename_i e; subst e; rw [if_neg (show ¬ j = 0 by omega), if_pos (show j < j + 1 by omega)]
  · by_cases hj : j = 0
    · rw [if_pos hj, if_pos hj]
    · rw [if_neg hj, if_neg hj]; by_cases hj2 : j < k
      · rw [if_pos hj2, if_pos (by omega)]
      · rw [if_neg hj2, if_neg (show ¬ j < k + 1 by omega)]
theorem kids_nil (c : Nat → PS) (p : Int) (k : Nat) (h : ∀ j, j < k → 1 ≤ j → kid c p j = false) : kids c p k = [] := by
  unfold kids
  rw [List.filter_eq_nil_iff]
  intro j hj
  rw [List.mem_range] at hj
  by_cases h1 : 1 ≤ j
  · simp [h j hj h1]
  · simp [h1]
theorem kids_exit (n : Nat) (h : Nat → Int) (k : Nat) (s : Int) : kids (upd (st2 n h (k + 1)) (k + 1) (.ended 0 s)) ((k + 1 : Nat) : Int) 6 = [] := by
  refine kids_nil _ _ _ fun j _ _ => ?_
  have hne : ((0 : Int) == ((k + 1 : Nat) : Int)) = false := by simp; omega
  unfold kid upd st2
  (repeat' split) <;> simp only [PS.isKid, hne]
theorem kids_wait (n : Nat) (h : Nat → Int) (k : Nat) (h1 : 1 ≤ k) (hk : k ≤ n) (hn : n < 6) : ∃ rest, kids (st3 n h k) 0 6 = k :: rest := by
  have hkd : kid (st3 n h k) 0 k = true := by unfold kid st3; rw [if_neg (by omega), if_neg (by omega), if_pos hk]; rfl
  have h0 : kids (st3 n h k) 0 k = [] := kids_nil _ _ _ fun j hj hj1 => by unfold kid st3; rw [if_neg (by omega), if_pos hj]; rfl
  obtain ⟨r, hr⟩ := kids_pre (st3 n h k) 0 (by omega) h1 hkd
  rw [h0] at hr
  exact ⟨r, by simpa using hr.symm⟩
theorem kids_last (n : Nat) (h : Nat → Int) : kids (st3 n h (n + 1)) 0 6 = [] := by
  refine kids_nil _ _ _ fun j hj hj1 => ?_
  unfold kid st3
  rw [if_neg (by omega)]
  by_cases h1 : j < n + 1
  · rw [if_pos h1]; rfl
  · rw [if_neg h1, if_neg (by omega)]; rfl
theorem kids_all (n : Nat) (h : Nat → Int) (k : Nat) : ∀ x, x ∈ kids (st3 n h k) 0 6 → x < 6 ∧ ∃ p s, st3 n h k x = .ended p s := by
  intro x hx
  unfold kids at hx
  rw [List.mem_filter, List.mem_range] at hx
  obtain ⟨h6, hx⟩ := hx
  refine ⟨h6, ?_⟩
  simp only [Bool.and_eq_true, decide_eq_true_eq] at hx
  obtain ⟨h1, hx⟩ := hx
  unfold kid st3 at hx
  unfold st3
  rw [if_neg (by omega)] at hx ⊢
  by_cases h2 : x < k
  · rw [if_pos h2] at hx; cases hx
  · rw [if_neg h2] at hx ⊢
    by_cases h3 : x ≤ n
    · exact ⟨0, h x, by rw [if_pos h3]⟩
    · rw [if_neg h3] at hx; cases hx
theorem cnt_last (n : Nat) (h : Nat → Int) : cnt (st3 n h (n + 1)) 6 = 1 := by
  have key : ∀ j, j < 6 → ((st3 n h (n + 1) j).state == 1) = decide (j = 0) := by
    intro j hj
    unfold st3
    by_cases h0 : j = 0
    · simp [h0, PS.state]
    · rw [if_neg h0]; by_cases h1 : j < n + 1
      · rw [if_pos h1]; simp [h0, PS.state]
      · rw [if_neg h1, if_neg (by omega)]; simp [h0, PS.state]
  unfold cnt
  rw [List.filter_congr (q := fun j => decide (j = 0)) (fun j hj => key j (by simpa using hj))]
  rfl
/-- the table and the bytes -/
def St (w : World) (hs : List Value) (c : Nat → PS) (wr : World) : Prop := Tab wr (w.heap.size + 1) c ∧ Blk wr w.heap.size 22 hs ∧ Below w.heap.size w wr
theorem St.keep {w wr w' : World} {hs : List Value} {c c' : Nat → PS} (h : St w hs c wr) (ht : Tab w' (w.heap.size + 1) c') (hk : Keep (· = w.heap.size + 1) wr w') : St w hs c' w' :=
  ⟨ht, h.2.1.keep hk (by omega), h.2.2.trans (hk.toBelow h.2.2.size (fun k hk => by omega))⟩
theorem St.keep0 {w wr w' : World} {hs : List Value} {c : Nat → PS} (h : St w hs c wr) (hk : Keep (fun _ => False) wr w') : St w hs c w' :=
  h.keep (Blk.keep h.1 hk id) (hk.mono (fun _ h => h.elim))
set_option maxRecDepth 100000 in
set_option maxHeartbeats 1000000 in
theorem family (m b0 b1 b2 b3 b4 : Int) (w : World) (hm : 0 ≤ m) (hm2 : m < 256) (hb0 : 0 ≤ b0 ∧ b0 < 256) (hb1 : 0 ≤ b1 ∧ b1 < 256) (hb2 : 0 ≤ b2 ∧ b2 < 256) (hb3 : 0 ≤ b3 ∧ b3 < 256) (hb4 : 0 ≤ b4 ∧ b4 < 256) :
    Calls Try.prog 3 #[.int .u8 m, .agg #[.int .u8 b0, .int .u8 b1, .int .u8 b2, .int .u8 b3, .int .u8 b4]] w fun e w' => e = .returned (.bool true) ∧ Below w.heap.size w w' := by
  obtain ⟨n, hn⟩ : ∃ n : Nat, (n : Int) = m % 6 := ⟨(m % 6).toNat, by omega⟩
  have hn6 : n < 6 := by omega
  obtain ⟨h, hh⟩ : ∃ h : Nat → Int, h = fun j => ([0, b0, b1, b2, b3, b4].getD j 0) := ⟨_, rfl⟩
  have hb : Blk (w.alloc (.cells #[.int .u8 b0, .int .u8 b1, .int .u8 b2, .int .u8 b3, .int .u8 b4] 22)) w.heap.size 22 [.int .u8 b0, .int .u8 b1, .int .u8 b2, .int .u8 b3, .int .u8 b4] := Blk.new w 22 [.int .u8 b0, .int .u8 b1, .int .u8 b2, .int .u8 b3, .int .u8 b4]
  have HH : Hid (∀ j, j < 5 → [Value.int .u8 b0, .int .u8 b1, .int .u8 b2, .int .u8 b3, .int .u8 b4][j]? = some (.int .u8 (h (j + 1))) ∧ 0 ≤ h (j + 1) ∧ h (j + 1) < 256) := by
    subst hh
    intro j hj
    rcases (by omega : j = 0 ∨ j = 1 ∨ j = 2 ∨ j = 3 ∨ j = 4) with rfl | rfl | rfl | rfl | rfl <;> exact ⟨rfl, by assumption⟩
  clear hh
  have hk0 : Keep (fun _ => False) w (w.alloc (.cells #[.int .u8 b0, .int .u8 b1, .int .u8 b2, .int .u8 b3, .int .u8 b4] 22)) := (Keep.refl _ _).alloc _
  obtain ⟨hs, hhs⟩ : ∃ hs, hs = [Value.int .u8 b0, .int .u8 b1, .int .u8 b2, .int .u8 b3, .int .u8 b4] := ⟨_, rfl⟩
  have hS0 : St w hs (st1 1) ((w.alloc (.cells #[.int .u8 b0, .int .u8 b1, .int .u8 b2, .int .u8 b3, .int .u8 b4] 22)).alloc (.cells #[(PS.living 0).enc, .nilIface, .nilIface, .nilIface, .nilIface, .nilIface] 37)) := by
    subst hhs
    refine ⟨?_, hb.alloc _, ((Below.refl _ _).alloc (Nat.le_refl _) _).alloc (by simp) _⟩
    have := Blk.new (w.alloc (.cells #[.int .u8 b0, .int .u8 b1, .int .u8 b2, .int .u8 b3, .int .u8 b4] 22)) 37 (tab (st1 1))
    rw [World.size_alloc] at this
    exact this
  rw [← hhs] at HH
  have HS0 := Lib.hid hS0
  clear hb hk0 hb0 hb1 hb2 hb3 hb4 hS0 hhs
  have HN := Lib.hid hn
  clear hn
  go_enter Try.func3, Try.ntmps3
  go_wp2_with fail
  refine (new_in _).mono ?_
  rintro e w1 ⟨rfl, rfl⟩
  rw [World.size_alloc]
  generalize ((w.alloc (.cells #[.int .u8 b0, .int .u8 b1, .int .u8 b2, .int .u8 b3, .int .u8 b4] 22)).alloc (.cells #[(PS.living 0).enc, .nilIface, .nilIface, .nilIface, .nilIface, .nilIface] 37)) = w1 at *
  go_wp2_with fail
  rw [← HN.out]
  go_loopw [7] (fun i wr => ∃ k : Nat, 1 ≤ k ∧ k ≤ n + 1 ∧ i = .int .i64 k ∧ Hid (St w hs (st1 k) wr)) (fun i _ => n + 1 - (intOf i).toNat)
  case atStart => exact ⟨1, by omega, by omega, rfl, HS0⟩
  case round =>
    obtain ⟨k, hk1, hkn, rfl, HS⟩ := hrel
    by_cases hlt : k ≤ n
    · go_wp2_with fail
      refine (fork_in (w.heap.size + 1) 0 k (st1 k) _ (by omega) HS.out.1 (if_pos (by omega)) (if_neg (by omega)) (fun j hj => by unfold st1; rw [if_pos hj]; simp)).mono ?_
      rintro e w2 ⟨rfl, ht2, hk2⟩
      rw [st1_succ] at ht2
      have HS2 := Lib.hid (HS.out.keep ht2 hk2)
      clear ht2 hk2
      go_wp2_with fail
      go_roundw
      case rel => exact ⟨k + 1, by omega, by omega, by go_num, HS2⟩
      case measure => simp [intOf]; omega
    · have hkk : k = n + 1 := by omega
      have HS' : Hid (St w hs (st2 n h n) wr) := by rw [← st1_st2 n h, ← hkk]; exact HS
      have hd : decide ((k : Int) ≤ (n : Int)) = false := by simp; omega
      clear HS hkk hkn
      go_wp2_with fail
      go_loopw [10] (fun i wr => ∃ k : Nat, k ≤ n ∧ i = .int .i64 k ∧ Hid (St w hs (st2 n h k) wr)) (fun i _ => (intOf i).toNat)
      case atStart => exact ⟨n, by omega, rfl, HS'⟩
      case round =>
        obtain ⟨k, hkn, rfl, HS⟩ := hrel
        by_cases hlt : 0 < k
        · obtain ⟨k, rfl⟩ : ∃ k', k = k' + 1 := ⟨k - 1, by omega⟩
          have hlt : 0 < ((k + 1 : Nat) : Int) := by omega
          have hd3 : decide (0 < ((k + 1 : Nat) : Int)) = true := by simp
          have hcell := (HH.out k (by omega))
          have hc := HS.out.2.1.cell_of hcell.1
          have hb1 := hcell.2.1
          have hb2 := hcell.2.2
          clear hcell
          have hki : ((k + 1 : Nat) : Int) - 1 = (k : Int) := by omega
          have hk5 : (k : Int) < 5 := by omega
          have hx0 : ¬ (((k + 1 : Nat) : Int)) = 0 := by omega
          go_wp2_with fail
          rw [show (k : Int) + 1 = ((k + 1 : Nat) : Int) from rfl]
          refine (exit_in (w.heap.size + 1) (k + 1) 0 (h (k + 1)) (st2 n h (k + 1)) _ (by omega) (by omega) HS.out.1 (if_pos (by omega)) (kids_exit n h k _)).mono ?_
          rintro e w2 ⟨rfl, ht2, hk2⟩
          rw [st2_pred n h k hkn] at ht2
          have HS2 := Lib.hid (HS.out.keep ht2 hk2)
          clear ht2 hk2
          go_wp2_with fail
          go_roundw
          case rel => exact ⟨k, by omega, by go_num, HS2⟩
          case measure => simp [intOf]
        · have hkk : k = 0 := by omega
          have HS' : Hid (St w hs (st3 n h 1) wr) := by rw [← st2_st3 n h, ← hkk]; exact HS
          have hd2 : decide (0 < k) = false := by simp; omega
          clear HS hkk hlt
          go_wp2_with fail
          go_loopw [11] (fun i wr => ∃ k : Nat, 1 ≤ k ∧ k ≤ n + 1 ∧ i = .int .i64 k ∧ Hid (St w hs (st3 n h k) wr)) (fun i _ => n + 1 - (intOf i).toNat)
          case atStart => exact ⟨1, by omega, by omega, rfl, HS'⟩
          case round =>
            obtain ⟨k, hk1, hkn, rfl, HS⟩ := hrel
            by_cases hlt : k ≤ n
            · obtain ⟨k, rfl⟩ : ∃ k', k = k' + 1 := ⟨k - 1, by omega⟩
              have hcell := (HH.out k (by omega))
              have HC := Lib.hid hcell
              have hb1 := hcell.2.1
              have hb2 := hcell.2.2
              clear hcell
              have hki : ((k + 1 : Nat) : Int) - 1 = (k : Int) := by omega
              have hk5 : (k : Int) < 5 := by omega
              have HE : Hid (st3 n h (k + 1) (k + 1) = .ended 0 (h (k + 1))) := by unfold st3; rw [if_neg (by omega), if_neg (by omega), if_pos hlt]; exact Lib.hid rfl
              obtain ⟨rest, hrest⟩ := kids_wait n h (k + 1) (by omega) hlt hn6
              have HR := Lib.hid hrest; clear hrest
              go_wp2_with fail
              refine (wait_one (w.heap.size + 1) (k + 1) 0 0 (h (k + 1)) rest (st3 n h (k + 1)) _ HS.out.1 (if_pos rfl) HR.out (by omega) HE.out (kids_all n h _)).mono ?_
              rintro e w2 ⟨rfl, ht2, hk2⟩
              rw [st3_succ n h (k + 1) (by omega)] at ht2
              have HS2 := Lib.hid (HS.out.keep ht2 hk2)
              clear ht2 hk2
              have hc := HS2.out.2.1.cell_of HC.out.1
              go_wp2_with fail
              go_roundw
              case rel => exact ⟨k + 1 + 1, by omega, by omega, by go_num, HS2⟩
              case measure => simp [intOf]; omega
            · have hkk : k = n + 1 := by omega
              have HS' : Hid (St w hs (st3 n h (n + 1)) wr) := by rw [← hkk]; exact HS
              have hd3 : decide ((k : Int) ≤ (n : Int)) = false := by simp; omega
              clear HS hkk hkn
              go_wp2_with fail
              refine (wait_none (w.heap.size + 1) 0 (st3 n h (n + 1)) _ HS'.out.1 (if_pos rfl) (kids_last n h)).mono ?_
              rintro e w2 ⟨rfl, hk2⟩
              have HS2 := Lib.hid (HS'.out.keep0 hk2)
              clear hk2
              go_wp2_with fail
              refine (running_in (w.heap.size + 1) (st3 n h (n + 1)) _ HS2.out.1).mono ?_
              rintro e w3 ⟨⟨a, cap, rfl⟩, hk3⟩
              rw [cnt_last n h]
              have HS3 := Lib.hid (HS2.out.keep0 hk3)
              clear hk3
              go_wp2_with fail
              go_ret
              exact ⟨rfl, HS3.out.2.2⟩
end Go.Proofs.Ytjibbdnmobaeiaa
