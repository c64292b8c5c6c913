/- Running: how many run. -/
import Derived.Test.YtjibbdnmobaeiaaLeaves
import Derived.OwnWalk
import Derived.Deep.AppendLies
namespace Go.Proofs.Ytjibbdnmobaeiaa
open Go.RowKit
def cnt (c : Nat → PS) (k : Nat) : Nat := ((List.range k).filter fun j => (c j).state == 1).length
theorem cnt_succ (c : Nat → PS) (k : Nat) : cnt c (k + 1) = cnt c k + if (c k).state == 1 then 1 else 0 := by
  unfold cnt
  rw [List.range_succ, List.filter_append]
  by_cases h : ((c k).state == 1) = true <;> simp [h]
theorem cnt_le (c : Nat → PS) (k : Nat) : cnt c k ≤ k := by
  unfold cnt; have := List.length_filter_le (fun j => (c j).state == 1) (List.range k); simpa using this
theorem info3 : (Try.prog.info? 3).map (fun i => (i.zero, i.size, i.bytes)) = some (some (.int .i64 0), 1, 8) := by kernel_rfl
set_option maxHeartbeats 400000 in
theorem running_in (t : Nat) (c : Nat → PS) (w : World) (ht : Tab w t c) :
    Calls Try.prog 8 #[.pointer (some ⟨t, 0, none⟩)] w fun e w' => (∃ a cap, e = .returned (.slice a (cnt c 6) cap)) ∧ Keep (fun _ => False) w w' := by
  obtain ⟨i0, hi, hz0, hz1, hz2⟩ := info_parts info3
  have hlt := ht.lt
  have HT := Lib.hid ht; clear ht
  go_enter Try.func8, Try.ntmps8
  go_wp2
  go_loopw [3, 5] (fun v i wr => ∃ (k : Nat) (xs : List Value), k ≤ 6 ∧ i = .int .i64 k ∧ wr.ownsRow w.heap.size 3 1 v (cnt c k) xs ∧ Below w.heap.size w wr) (fun _ i _ => 6 - (intOf i).toNat)
  case atStart => exact ⟨0, [], by omega, rfl, World.ownsRow_nil .., Below.refl _ _⟩
  case round =>
    obtain ⟨k, xs, hk, rfl, hown, hB⟩ := hrel
    have HB := Lib.hid hB; clear hB
    by_cases hlt : k < 6
    · have hck := (HT.out.below HB.out HT.out.lt).cell_of (tab_get c hlt)
      have HS := Lib.hid (cnt_succ c k)
      have hle := cnt_le c k
      have hsz := HB.out.size
      have hst : ((c k).state == 1) = true ∨ ((c k).state == 1) = false := by cases ((c k).state == 1) <;> simp
      rcases hst with hst | hst
      · go_wp2_with (first
          | (go_at_call 11; refine (state_in t k (c k) _ hlt (by exact hck)).mono ?_; rintro e w' ⟨rfl, rfl⟩)
          | (at_builtin; refine wpList_append_own _ rfl _ _ 31 rfl w.heap.size 3 i0 (.int .i64 0) 1 8 Try.underlying31 hi hz0 hz1 hz2 rfl (by decide) _ _ _ rfl (hown.alloc _) ⟨wr.heap.size, 0, none⟩ 1 1 [.int .i64 k] rfl rfl ?c1 ?c2 ?c3 ?c4 ?c5 ?_; (case c1 => exact World.news_of_block (cs := #[.int .i64 k]) (t := 3) (fr := (0, 0)) (heap_alloc_new wr _)); (case c2 => simp [Value.oneCell']); (case c3 => unfold maxLen; omega); (case c4 => omega); (case c5 => rw [World.size_alloc]; omega); intro v' w1 hown' hgrow _))
        have HB1 := Lib.hid ((HB.out.alloc HB.out.size (.cells #[.int .i64 k] 3)).grown hgrow (by rw [World.size_alloc]; omega) (fun j e => ((hown.alloc (.cells #[.int .i64 k] 3)).lt j e).1))
        have HO1 := Lib.hid hown'
        go_wp2
        go_roundw
        case rel => exact ⟨k + 1, _, by omega, by go_num, by rw [HS.out, hst]; exact HO1.out, HB1.out⟩
        case measure => simp [intOf]; omega
      · go_wp2_with (go_at_call 11; refine (state_in t k (c k) _ hlt (by exact hck)).mono ?_; rintro e w' ⟨rfl, rfl⟩)
        go_roundw
        case rel => exact ⟨k + 1, xs, by omega, by go_num, by rw [HS.out, hst]; exact hown, HB.out⟩
        case measure => simp [intOf]; omega
    · obtain rfl : k = 6 := by omega
      go_wp2
      go_ret
      have : ∃ a cap, u3 = .slice a (cnt c 6) cap := by
        rcases hown.2 with ⟨rfl, h⟩ | ⟨g, cap, cur, rfl, h⟩
        · exact ⟨none, 0, by rw [h]⟩
        · exact ⟨_, _, rfl⟩
      obtain ⟨a, cap, rfl⟩ := this
      exact ⟨⟨a, cap, rfl⟩, Keep.of_below HB.out⟩
end Go.Proofs.Ytjibbdnmobaeiaa
