/- The walks of the document's List, Room, Begin, Dup. -/
import Derived.Test.YtdiginkpclbmdaaRefB
namespace Go.Proofs.Ytdiginkpclbmdaa
open Go.RowKit
attribute [local go_sem] cell_alloc_some frozen_alloc_some
section
variable {w w' : World} {R : Nat} {S : St} {v : Value} {F : Nat → Prop}
set_option maxHeartbeats 1000000 in
theorem rlist_any (h : RepR w R S v F) (p : Int) :
    Calls Try.prog 34 #[.pointer (some ⟨R, 0, none⟩), .int .i64 p] w fun e w' => (∃ v, e = .returned v ∧ w'.ownsRow w.heap.size 3 1 v (listE S p).length (ints (listE S p))) ∧ Below w.heap.size w w' := by
  rcases mayE_cases S p with ⟨hm, _⟩ | ⟨hm, q, rfl, hq, hh⟩
  · have hl : listE S p = [] := by unfold listE; rw [if_pos hm]
    rw [hl]
    have H1 := rmay_any h p
    rw [hm] at H1
    have H1 := Lib.hid H1
    clear h hm hl
    go_enter Try.func34, Try.ntmps34
    go_wp2
    go_loop [5, 6] (fun v x => v = .slice none 0 0 ∧ x = .int .i64 0) (fun _ _ => 0)
    case atStart => exact ⟨rfl, rfl⟩
    case round =>
      obtain ⟨rfl, rfl⟩ := hrel
      go_wp2_with fail
      refine H1.out.mono ?_
      rintro e w' ⟨rfl, rfl⟩
      go_wp2
      go_ret
      exact ⟨⟨_, rfl, World.ownsRow_nil ..⟩, Below.refl _ _⟩
  · have hl : listE S q = listN S q 8 := by unfold listE; rw [if_neg (by rw [hm]; decide)]; rfl
    rw [hl]
    obtain ⟨i0, hi, hz0, hz1, hz2⟩ := info_parts info3
    have H1 := fun (wr : World) (hb : Below w.heap.size w wr) => rmay_any (h.keep0 (Keep.of_below hb)) q
    rw [hm] at H1
    have H1 := Lib.hid H1
    have HH := Lib.hid h
    have h6 : (q : Int) < 6 := by omega
    clear h hm hl hh
    go_enter Try.func34, Try.ntmps34
    go_wp2
    go_loopw [5, 6] (fun v i wr => ∃ k : Nat, k ≤ 8 ∧ i = .int .i64 k ∧ wr.ownsRow w.heap.size 3 1 v (listN S q k).length (ints (listN S q k)) ∧ Hid (Below w.heap.size w wr)) (fun _ i _ => 8 - (intOf i).toNat)
    case atStart => exact ⟨0, by omega, rfl, World.ownsRow_nil .., Below.refl _ _⟩
    case round =>
      obtain ⟨k, hk, rfl, hown, HB⟩ := hrel
      by_cases hlt : k < 8
      · have hck := (HH.out.keep0 (Keep.of_below HB.out)).cellF hq hlt
        have HS := Lib.hid (listN_succ S q k)
        have hle := listN_le S q k
        have hsz := HB.out.size
        have h5 : (k : Int) < 8 := by omega
        by_cases hf : S.fd q k = 0
        · have hz : ((S.fd q k : Int) == 0) = true := by simp [hf]
          have HS2 : Hid (listN S q (k + 1) = listN S q k) := by rw [HS.out, if_pos hf]; simp [Hid]
          clear hf HS
          go_wp2_with fail
          refine (H1.out wr HB.out).mono ?_
          rintro e w' ⟨rfl, rfl⟩
          go_wp2
          go_roundw
          case rel => exact ⟨k + 1, by omega, by go_num, by rw [HS2.out]; exact hown, HB⟩
          case measure => simp [intOf]; omega
        · have hz : ((S.fd q k : Int) == 0) = false := by simp [hf]
          have HS2 : Hid (listN S q (k + 1) = listN S q k ++ [k]) := by rw [HS.out, if_neg hf]; exact Lib.hid rfl
          clear hf HS
          go_wp2_with fail
          refine (H1.out wr HB.out).mono ?_
          rintro e w' ⟨rfl, rfl⟩
          go_wp2_with (at_builtin; refine wpList_append_own _ rfl _ _ 52 rfl w.heap.size 3 i0 (.int .i64 0) 1 8 Try.underlying52 hi hz0 hz1 hz2 rfl (by decide) _ _ _ rfl (World.ownsRow.alloc hown _) ⟨wr.heap.size, 0, none⟩ 1 1 [.int .i64 k] rfl rfl ?c1 ?c2 ?c3 ?c4 ?c5 ?_; (case c1 => exact World.news_of_block (cs := #[.int .i64 k]) (t := 3) (fr := (0, 0)) (heap_alloc_new _ _)); (case c2 => simp [Value.oneCell']); (case c3 => unfold maxLen; omega); (case c4 => omega); (case c5 => rw [World.size_alloc]; exact Nat.le_trans hsz (Nat.le_succ _)); intro v' w1 hown' hgrow _)
          have HB1 := Lib.hid ((HB.out.alloc (o := .cells #[.int .i64 k] 3) hsz).grown hgrow (by rw [World.size_alloc]; exact Nat.le_trans hsz (Nat.le_succ _)) (fun j e => ((World.ownsRow.alloc hown (.cells #[.int .i64 k] 3)).lt j e).1))
          have HO1 := Lib.hid hown'
          clear hgrow hown'
          go_wp2
          go_roundw
          case rel => exact ⟨k + 1, by omega, by go_num, by rw [HS2.out]; simpa [ints] using HO1.out, HB1⟩
          case measure => simp [intOf]; omega
      · obtain rfl : k = 8 := by omega
        go_wp2_with fail
        refine (H1.out wr HB.out).mono ?_
        rintro e w' ⟨rfl, rfl⟩
        go_wp2
        go_ret
        exact ⟨⟨_, rfl, hown⟩, HB.out⟩
set_option maxHeartbeats 1000000 in
theorem rroom_any (h : RepR w R S v F) (p : Int) :
    Calls Try.prog 35 #[.pointer (some ⟨R, 0, none⟩), .int .i64 p] w fun e w' => e = .returned (.int .i64 (roomE S p)) ∧ Below w.heap.size w w' := by
  have H1 := rmay_any h p
  rcases mayE_cases S p with ⟨hm, _⟩ | ⟨hm, q, rfl, hq, hh⟩
  · have hl : roomE S p = 0 := by unfold roomE; rw [if_pos hm]
    rw [hl]
    rw [hm] at H1
    have H1 := Lib.hid H1
    clear h hm hl
    go_enter Try.func35, Try.ntmps35
    go_wp2_with fail
    refine H1.out.mono ?_
    rintro e w' ⟨rfl, rfl⟩
    go_wp2
    go_ret
    exact ⟨rfl, Below.refl _ _⟩
  · have hl : roomE S q = 8 - (listE S q).length := by unfold roomE listE; rw [if_neg (by rw [hm]; decide), if_neg (by rw [hm]; decide)]
    rw [hl]
    have hle : (listE S q).length ≤ 8 := by unfold listE; split; simp; exact listN_le S _ 8
    rw [hm] at H1
    have H1 := Lib.hid H1
    have H2 := Lib.hid (rlist_any h q)
    clear h hm hl hh
    generalize listE S q = L at *
    obtain ⟨n, hn⟩ : ∃ n, n = L.length := ⟨_, rfl⟩
    rw [← hn] at hle H2 ⊢
    clear hn
    go_enter Try.func35, Try.ntmps35
    go_wp2_with fail
    refine H1.out.mono ?_
    rintro e w' ⟨rfl, rfl⟩
    go_wp2_with fail
    refine H2.out.mono ?_
    rintro e w' ⟨⟨v, rfl, hown⟩, hb⟩
    obtain ⟨a, cap, rfl⟩ := own_slice hown
    have HB := Lib.hid hb; clear hown hb
    go_wp2
    go_ret
    exact ⟨rfl, HB.out⟩
theorem RepR.begun (h : RepR w R S v F) {p : Nat} (hp : p < 6) : RepR (w.setCell ⟨R, p, none⟩ (.bool true)) R (S.begin p) v F := by
  refine ⟨h.inv.begin p, ?_, ownsRow_keep' h.all (Keep.setCell (S := (· = R)) (Keep.refl _ w) (.inl rfl) _) (fun g hg e => own_ne h.all h.tab (by decide) (by rw [hg, e])), h.footR, h.footA⟩
  have := h.tab.set_ p (.bool true)
  rw [row_set] at this
  have e : row 55 (rcell (S.begin p) v) = row 55 (fun j => if j = p then .bool true else rcell S v j) := by
    refine row_congr fun j hj => ?_
    unfold rcell
    by_cases ej : j = p
    · subst ej; rw [if_pos rfl, if_pos hp]; simp [St.begin]
    · rw [if_neg ej]; simp [St.begin, ej]
  rw [e]; exact this
set_option maxHeartbeats 1000000 in
theorem rbegin_any (h : RepR w R S v F) (p : Int) :
    Calls Try.prog 39 #[.pointer (some ⟨R, 0, none⟩), .int .i64 p] w fun e w' => e = .returned (.int .i64 (freshE S p)) ∧ RepR w' R (beginS S p) v F ∧ Keep (· = R) w w' := by
  have H1 := Lib.hid (rfresh_any h p)
  have HH := Lib.hid h
  rcases freshE_cases S p with ⟨he, _⟩ | ⟨q, rfl, hq, hh, he⟩ | ⟨q, rfl, hq, hh, he⟩
  · have hs : beginS S p = S := by unfold beginS; rw [if_neg (by rw [he]; decide)]
    rw [he] at H1 ⊢; rw [hs]; clear he hs h
    go_enter Try.func39, Try.ntmps39
    go_wp2_with fail
    refine H1.out.mono ?_
    rintro e w' ⟨rfl, rfl⟩
    go_wp2
    go_ret
    exact ⟨rfl, HH.out, Keep.refl _ _⟩
  · have hs : beginS S q = S := by unfold beginS; rw [if_neg (by rw [he]; decide)]
    rw [he] at H1 ⊢; rw [hs]; clear he hs h hh
    go_enter Try.func39, Try.ntmps39
    go_wp2_with fail
    refine H1.out.mono ?_
    rintro e w' ⟨rfl, rfl⟩
    go_wp2
    go_ret
    exact ⟨rfl, HH.out, Keep.refl _ _⟩
  · have hs : beginS S q = S.begin q := by unfold beginS; rw [if_pos he]; rfl
    have hc := h.cellH hq
    have hz := h.tab.frozen q
    have HB := Lib.hid (h.begun hq)
    have h5 : (q : Int) < 6 := by omega
    rw [he] at H1 ⊢; rw [hs]; clear he hs h hh
    go_enter Try.func39, Try.ntmps39
    go_wp2_with fail
    refine H1.out.mono ?_
    rintro e w' ⟨rfl, rfl⟩
    go_wp2
    go_ret
    exact ⟨rfl, HB.out, (Keep.refl (· = R) w).setCell (.inl rfl) _⟩
set_option maxHeartbeats 1000000 in
theorem rdup_any (h : RepR w R S v F) (p k : Int) :
    Calls Try.prog 44 #[.pointer (some ⟨R, 0, none⟩), .int .i64 p, .int .i64 k] w fun e w' => e = .returned (.tuple #[.int .i64 (dupE S p k).1, .int .i64 (dupE S p k).2]) ∧ RepR w' R (dupS S p k) v F ∧ Keep (· = R) w w' := by
  have H1 := rat_any h p k
  by_cases he : atE S p k = 0
  · obtain ⟨q, j, rfl, rfl, hq, hj, hh, hf⟩ := at_ok_cases S p k he
    rw [he] at H1
    have H1 := Lib.hid H1
    have hc := h.cellF hq hj
    have h5 : (q : Int) < 6 := by omega
    have h6 : (j : Int) < 8 := by omega
    by_cases h8 : S.free q < 8
    · have hd : dupE S q j = ((S.free q : Int), 0) := by unfold dupE; rw [if_neg (by simpa using he)]; exact if_pos h8
      have hs : dupS S q j = S.give q (S.fd q j) := by unfold dupS; rw [hd]; rfl
      rw [hd, hs]
      have HG := Lib.hid (rgive_ok h q (S.fd q j) hq hh h8 (h.inv.le q j hq hj))
      clear hd hs h he hf hh
      go_enter Try.func44, Try.ntmps44
      go_wp2_with fail
      refine H1.out.mono ?_
      rintro e w' ⟨rfl, rfl⟩
      go_wp2_with fail
      refine HG.out.mono ?_
      rintro e w' ⟨rfl, hr, hk⟩
      have HR := Lib.hid hr; have HK := Lib.hid hk; clear hr hk
      go_wp2
      go_ret2
      exact ⟨rfl, HR.out, HK.out⟩
    · have hd : dupE S q j = (0, 11) := by unfold dupE; rw [if_neg (by simpa using he)]; exact if_neg h8
      have hs : dupS S q j = S := by unfold dupS; rw [hd]; rfl
      rw [hd, hs]
      have HG := Lib.hid (rgive_full h q (S.fd q j) hq h8)
      have HH := Lib.hid h
      clear hd hs h he hf hh
      go_enter Try.func44, Try.ntmps44
      go_wp2_with fail
      refine H1.out.mono ?_
      rintro e w' ⟨rfl, rfl⟩
      go_wp2_with fail
      refine HG.out.mono ?_
      rintro e w' ⟨rfl, rfl⟩
      go_wp2
      go_ret2
      exact ⟨rfl, HH.out, Keep.refl _ _⟩
  · have hd : dupE S p k = (0, atE S p k) := by unfold dupE; rw [if_pos he]
    have hs : dupS S p k = S := by unfold dupS; rw [hd]; exact if_neg he
    rw [hd, hs]
    have H1 := Lib.hid H1
    have hne : (atE S p k == 0) = false := by simpa using he
    have HH := Lib.hid h
    clear h hd hs
    generalize atE S p k = er at *
    go_enter Try.func44, Try.ntmps44
    go_wp2_with fail
    refine H1.out.mono ?_
    rintro e w' ⟨rfl, rfl⟩
    go_wp2
    go_ret2
    exact ⟨rfl, HH.out, Keep.refl _ _⟩
end
end Go.Proofs.Ytdiginkpclbmdaa
