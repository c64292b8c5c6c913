/- The walks of List and Room. -/
import Derived.Test.YtdiginkpclbmdaaImpD
import Derived.OwnWalk
import Derived.Deep.AppendLies
namespace Go.Proofs.Ytdiginkpclbmdaa
open Go.RowKit
attribute [local go_sem] cell_alloc_some frozen_alloc_some
def ints (l : List Nat) : List Value := l.map fun j => .int .i64 (j : Nat)
theorem ownsRow_drewN {w : World} {B : Nat} {e : TypeId} {size : Nat} {v : Value} {n : Nat} {xs : List Value} (h : w.ownsRow B e size v n xs) (k : Nat) : (w.drewN k).ownsRow B e size v n xs := h
theorem below_drewN {B : Nat} {a w : World} (h : Below B a w) (n : Nat) : Below B a (w.drewN n) := ⟨h.os, h.tape, h.output, h.size, h.block⟩
theorem info3 : (Try.prog.info? 3).map (fun i => (i.zero, i.size, i.bytes)) = some (some (.int .i64 0), 1, 8) := by kernel_rfl
section
variable {w : World} {T : Nat} {S : St} {pb sb : Nat → Nat} {F : Nat → Prop}
set_option maxHeartbeats 1000000 in
theorem list_any (h : RepT w T S pb sb F) (p : Int) :
    Calls Try.prog 21 #[.pointer (some ⟨T, 0, none⟩), .int .i64 p] w fun e w' => (∃ v, e = .returned v ∧ w'.ownsRow w.heap.size 3 1 v (listE S p).length (ints (listE S p))) ∧ Below w.heap.size w w' := by
  rcases mayE_cases S p with ⟨hm, _⟩ | ⟨hm, q, rfl, hq, hh⟩
  · have hl : listE S p = [] := by unfold listE; rw [if_pos hm]
    rw [hl]
    have H1 := Lib.hid (of_err h p hm)
    clear h hm hl
    go_enter Try.func21, Try.ntmps21
    go_wp2_with fail
    refine H1.out.mono ?_
    rintro e w' ⟨rfl, rfl⟩
    go_wp2
    go_ret
    exact ⟨⟨_, rfl, World.ownsRow_nil ..⟩, Below.refl _ _⟩
  · have hl : listE S q = listN S q 8 := by unfold listE; rw [if_neg (by rw [hm]; decide)]; rfl
    rw [hl]
    obtain ⟨i0, hi, hz0, hz1, hz2⟩ := info_parts info3
    have H1 := Lib.hid (of_ok h q hq hh)
    have HP := Lib.hid (h.proc q hq hh)
    clear h hm hl hh
    go_enter Try.func21, Try.ntmps21
    go_wp2_with fail
    refine H1.out.mono ?_
    rintro e w' ⟨rfl, rfl⟩
    go_wp2
    go_loopw [7, 19] (fun v i wr => ∃ k : Nat, k ≤ 8 ∧ i = .int .i64 k ∧ wr.ownsRow w.heap.size 3 1 v (listN S q k).length (ints (listN S q k)) ∧ Hid (Below w.heap.size w wr)) (fun _ i _ => 8 - (intOf i).toNat)
    case atStart => exact ⟨0, by omega, rfl, World.ownsRow_nil .., Below.refl _ _⟩
    case round =>
      obtain ⟨k, hk, rfl, hown, HB⟩ := hrel
      by_cases hlt : k < 8
      · have hck := (HP.out.below HB.out HP.out.lt).cell_of (row_get _ hlt)
        have HS := Lib.hid (listN_succ S q k)
        have hle := listN_le S q k
        have hsz := HB.out.size
        have h4 : (0 : Int) ≤ (k : Int) := by omega
        have h5 : (k : Int) < 8 := by omega
        by_cases hf : S.fd q k = 0
        · rw [pcell_none hf] at hck
          have HS2 : Hid (listN S q (k + 1) = listN S q k) := by rw [HS.out, if_pos hf]; simp [Hid]
          clear hf HS
          go_wp2
          go_quiet (fail)
          go_wp2
          go_roundw
          case rel => exact ⟨k + 1, by omega, by go_num, by rw [HS2.out]; exact hown, ⟨HB.out.os, HB.out.tape, HB.out.output, HB.out.size, HB.out.block⟩⟩
          case measure => simp [intOf]; omega
        · rw [pcell_some hf] at hck
          have HS2 : Hid (listN S q (k + 1) = listN S q k ++ [k]) := by rw [HS.out, if_neg hf]; exact Lib.hid rfl
          clear hf HS
          go_wp2
          go_quiet (fail)
          go_wp2_with (at_builtin; refine wpList_append_own _ rfl _ _ 52 rfl w.heap.size 3 i0 (.int .i64 0) 1 8 Try.underlying52 hi hz0 hz1 hz2 rfl (by decide) _ _ _ rfl (World.ownsRow.alloc (ownsRow_drewN hown _) _) ⟨wr.heap.size, 0, none⟩ 1 1 [.int .i64 k] rfl rfl ?c1 ?c2 ?c3 ?c4 ?c5 ?_; (case c1 => exact World.news_of_block (cs := #[.int .i64 k]) (t := 3) (fr := (0, 0)) (heap_alloc_new _ _)); (case c2 => simp [Value.oneCell']); (case c3 => unfold maxLen; omega); (case c4 => omega); (case c5 => rw [World.size_alloc]; exact Nat.le_trans hsz (Nat.le_succ _)); intro v' w1 hown' hgrow _)
          have HB1 := Lib.hid (((below_drewN HB.out nq).alloc (o := .cells #[.int .i64 k] 3) hsz).grown hgrow (by rw [World.size_alloc]; exact Nat.le_trans hsz (Nat.le_succ _)) (fun j e => ((World.ownsRow.alloc (ownsRow_drewN hown nq) (.cells #[.int .i64 k] 3)).lt j e).1))
          have HO1 := Lib.hid hown'
          clear hgrow hown'
          go_wp2
          go_roundw
          case rel => exact ⟨k + 1, by omega, by go_num, by rw [HS2.out]; simpa [ints] using HO1.out, HB1.out⟩
          case measure => simp [intOf]; omega
      · obtain rfl : k = 8 := by omega
        go_wp2
        go_ret
        exact ⟨⟨_, rfl, hown⟩, HB.out⟩
theorem own_slice {B e size n : Nat} {v : Value} {xs : List Value} (h : w.ownsRow B e size v n xs) : ∃ a cap, v = .slice a n cap := by
  rcases h.2 with ⟨rfl, h0⟩ | ⟨g, cap, cur, rfl, _⟩
  · exact ⟨none, 0, by rw [h0]⟩
  · exact ⟨_, _, rfl⟩
set_option maxHeartbeats 1000000 in
theorem room_any (h : RepT w T S pb sb F) (p : Int) :
    Calls Try.prog 22 #[.pointer (some ⟨T, 0, none⟩), .int .i64 p] w fun e w' => e = .returned (.int .i64 (roomE S p)) ∧ Below w.heap.size w w' := by
  rcases mayE_cases S p with ⟨hm, _⟩ | ⟨hm, q, rfl, hq, hh⟩
  · have hl : roomE S p = 0 := by unfold roomE; rw [if_pos hm]
    rw [hl]
    have H1 := Lib.hid (of_err h p hm)
    clear h hm hl
    go_enter Try.func22, Try.ntmps22
    go_wp2_with fail
    refine H1.out.mono ?_
    rintro e w' ⟨rfl, rfl⟩
    go_wp2
    go_ret
    exact ⟨rfl, Below.refl _ _⟩
  · have hl : roomE S q = 8 - (listE S q).length := by unfold roomE listE; rw [if_neg (by rw [hm]; decide), if_neg (by rw [hm]; decide)]
    rw [hl]
    have hle : (listE S q).length ≤ 8 := by unfold listE; split; simp; exact listN_le S _ 8
    have H1 := Lib.hid (of_ok h q hq hh)
    have H2 := Lib.hid (list_any h q)
    clear h hm hl hh
    generalize listE S q = L at *
    obtain ⟨n, hn⟩ : ∃ n, n = L.length := ⟨_, rfl⟩
    rw [← hn] at hle H2 ⊢
    clear hn
    go_enter Try.func22, Try.ntmps22
    go_wp2_with fail
    refine H1.out.mono ?_
    rintro e w' ⟨rfl, rfl⟩
    go_wp2_with fail
    refine H2.out.mono ?_
    rintro e w' ⟨⟨v, rfl, hown⟩, hb⟩
    obtain ⟨a, cap, rfl⟩ := own_slice hown
    have HB := Lib.hid hb; clear hown hb
    go_wp2
    go_ret
    exact ⟨rfl, HB.out⟩
end
end Go.Proofs.Ytdiginkpclbmdaa
