/- The walks of the document's give and held. -/
import Derived.Test.YtdiginkpclbmdaaRefA
namespace Go.Proofs.Ytdiginkpclbmdaa
open Go.RowKit
attribute [local go_sem] cell_alloc_some frozen_alloc_some
section
variable {w w' : World} {R : Nat} {S : St} {v : Value} {F : Nat → Prop}
theorem own_ne {w : World} {base e size n g t : Nat} {v : Value} {xs cs : List Value} (h : w.ownsRow base e size v n xs) (hb : Blk w g t cs) (hne : e ≠ t) : v.ownBlock ≠ some g := by
  rcases h.2 with ⟨rfl, _⟩ | ⟨g', cap, cur, rfl, _, hh, _⟩
  · simp [Value.ownBlock]
  · intro he
    have : g' = g := by simpa [Value.ownBlock] using he
    subst this
    unfold Blk at hb
    rw [hb] at hh
    injection hh with hh
    injection hh with _ ht
    exact hne ht.symm
theorem RepR.turn (h : RepR w R S v F) {p k n : Nat} (hp : p < 6) (hk : k < 8) (hh : S.has p = true ∨ n = 0) (hn : n ≤ S.all.length) :
    RepR (w.setCell ⟨R, 6 + p * 8 + k, none⟩ (.int .i64 n)) R { S with fd := setFd S.fd p k n } v F := by
  refine ⟨⟨fun q j hq hj => ?_, fun q j hq hj hf => ?_⟩, ?_, ownsRow_keep' h.all (Keep.setCell (S := (· = R)) (Keep.refl _ w) (.inl rfl) _) (fun g hg e => own_ne h.all h.tab (by decide) (by rw [hg, e])), h.footR, h.footA⟩
  · simp only [setFd]; split
    · exact hn
    · exact h.inv.le q j hq hj
  · show setFd S.fd p k n q j = 0
    unfold setFd
    split
    · rename_i e
      rcases hh with hh | hh
      · rw [show S.has q = S.has p by rw [e.1]] at hf; rw [hh] at hf; cases hf
      · exact hh
    · exact h.inv.none q j hq hj hf
  · have := h.tab.set_ (6 + p * 8 + k) (.int .i64 n)
    rw [row_set] at this
    have e : row 55 (rcell { S with fd := setFd S.fd p k n } v) = row 55 (fun j => if j = 6 + p * 8 + k then .int .i64 n else rcell S v j) := by
      refine row_congr fun j hj => ?_
      unfold rcell
      show (if j < 6 then Value.bool (S.has j) else if j < 54 then .int .i64 (setFd S.fd p k n ((j - 6) / 8) ((j - 6) % 8) : Nat) else v) = _
      unfold setFd
      by_cases ej : j = 6 + p * 8 + k
      · rw [if_neg (by omega), if_pos (by omega), if_pos ej, if_pos (by omega)]
      · rw [if_neg ej]
        by_cases h1 : j < 6
        · rw [if_pos h1, if_pos h1]
        · rw [if_neg h1, if_neg h1]
          by_cases h2 : j < 54
          · rw [if_pos h2, if_pos h2, if_neg (by omega)]
          · rw [if_neg h2, if_neg h2]
    rw [e]; exact this
set_option maxHeartbeats 1000000 in
theorem rgive_ok (h : RepR w R S v F) (p n : Nat) (hp : p < 6) (hh : S.has p = true) (h8 : S.free p < 8) (hn : n ≤ S.all.length) :
    Calls Try.prog 51 #[.pointer (some ⟨R, 0, none⟩), .int .i64 p, .int .i64 n] w fun e w' => e = .returned (.tuple #[.int .i64 (S.free p), .int .i64 0]) ∧ RepR w' R (S.give p n) v F ∧ Keep (· = R) w w' := by
  have HT := Lib.hid (h.turn (n := n) hp h8 (.inl hh) hn)
  have h4 : (p : Int) < 6 := by omega
  have HFR := Lib.hid (fun j hj => S.free_ne p (j := j) hj)
  have HZ := Lib.hid (S.free_zero p h8)
  have HH := Lib.hid h
  have HZZ := Lib.hid (h.tab.frozen (6 + p * 8 + S.free p))
  clear h hh
  go_enter Try.func51, Try.ntmps51
  go_wp2
  go_loop [8] (fun x => ∃ k : Nat, k ≤ S.free p ∧ x = .int .i64 k) (fun x => 8 - (intOf x).toNat)
  case atStart => exact ⟨0, by omega, rfl⟩
  case round =>
    obtain ⟨k, hk, rfl⟩ := hrel
    have hc := HH.out.cellF hp (k := k) (by omega)
    have h5 : (k : Int) < 8 := by omega
    by_cases hkf : k < S.free p
    · have hz2 : ((S.fd p k : Int) == 0) = false := by have := HFR.out k hkf; simp; omega
      go_wp2
      go_round
      case rel => exact ⟨k + 1, by omega, by go_num⟩
      case measure => simp [intOf]; omega
    · obtain rfl : k = S.free p := by omega
      rw [HZ.out] at hc
      have hfz := HZZ.out
      have HT2 := Lib.hid HT.out
      clear HZ
      go_wp2
      go_ret2
      exact ⟨rfl, HT2.out, (Keep.refl (· = R) w).setCell (.inl rfl) _⟩
set_option maxHeartbeats 1000000 in
theorem rgive_full (h : RepR w R S v F) (p : Nat) (n : Int) (hp : p < 6) (h8 : ¬ S.free p < 8) :
    Calls Try.prog 51 #[.pointer (some ⟨R, 0, none⟩), .int .i64 p, .int .i64 n] w fun e w' => e = .returned (.tuple #[.int .i64 0, .int .i64 11]) ∧ w = w' := by
  have h4 : (p : Int) < 6 := by omega
  have HFR : Hid (∀ j, j < 8 → S.fd p j ≠ 0) := fun j hj => S.free_ne p (by omega)
  have HH := Lib.hid h
  clear h
  go_enter Try.func51, Try.ntmps51
  go_wp2
  go_loop [8] (fun x => ∃ k : Nat, k ≤ 8 ∧ x = .int .i64 k) (fun x => 8 - (intOf x).toNat)
  case atStart => exact ⟨0, by omega, rfl⟩
  case round =>
    obtain ⟨k, hk, rfl⟩ := hrel
    by_cases hkf : k < 8
    · have hc := HH.out.cellF hp hkf
      have h5 : (k : Int) < 8 := by omega
      have hz2 : ((S.fd p k : Int) == 0) = false := by have := HFR.out k hkf; simp; omega
      go_wp2
      go_round
      case rel => exact ⟨k + 1, by omega, by go_num⟩
      case measure => simp [intOf]; omega
    · go_wp2
      go_ret2
      exact ⟨rfl, rfl⟩
theorem cnt_zero_iff (fd : Nat → Nat → Nat) (n : Nat) (h : ∀ p k, p < 6 → k < 8 → fd p k ≠ n) : cnt fd n = 0 := by
  rcases Nat.eq_zero_or_pos (cnt fd n) with h0 | h0
  · exact h0
  · obtain ⟨p, k, hp, hk, he⟩ := cnt_of_pos h0; exact absurd he (h p k hp hk)
set_option maxHeartbeats 1000000 in
theorem rheld_any (h : RepR w R S v F) (n : Nat) :
    Calls Try.prog 52 #[.pointer (some ⟨R, 0, none⟩), .int .i64 n] w fun e w' => e = .returned (.bool (cnt S.fd n != 0)) ∧ w = w' := by
  have HH := Lib.hid h
  obtain ⟨r, hr⟩ : ∃ r, r = (cnt S.fd n != 0) := ⟨_, rfl⟩
  rw [← hr]
  have HR := Lib.hid hr
  clear h hr
  go_enter Try.func52, Try.ntmps52
  go_wp2
  go_loop [5] (fun x => ∃ p : Nat, p ≤ 6 ∧ x = .int .i64 p ∧ Hid (∀ q k, q < p → k < 8 → S.fd q k ≠ n)) (fun x => 6 - (intOf x).toNat)
  case atStart => exact ⟨0, by omega, rfl, fun q k hq => by omega⟩
  case round =>
    obtain ⟨p, hp, rfl, HP⟩ := hrel
    by_cases hp6 : p < 6
    · have h4 : (p : Int) < 6 := by omega
      go_wp2
      go_loop [6] (fun x => ∃ k : Nat, k ≤ 8 ∧ x = .int .i64 k ∧ Hid (∀ j, j < k → S.fd p j ≠ n)) (fun x => 8 - (intOf x).toNat)
      case atStart => exact ⟨0, by omega, rfl, fun j hj => by omega⟩
      case round =>
        obtain ⟨k, hk, rfl, HK⟩ := hrel
        by_cases hk8 : k < 8
        · have h5 : (k : Int) < 8 := by omega
          have hc := HH.out.cellF hp6 hk8
          by_cases he : S.fd p k = n
          · have heq : ((S.fd p k : Int) == (n : Int)) = true := by simp [he]
            have HR2 : Hid (r = true) := by rw [HR.out, ← he]; have := cnt_pos (fd := S.fd) hp6 hk8; simp [Hid]; omega
            clear he
            go_wp2
            go_ret
            exact ⟨by rw [HR2.out]; rfl, rfl⟩
          · have heq : ((S.fd p k : Int) == (n : Int)) = false := by simp; omega
            have HE := Lib.hid he; clear he
            go_wp2
            go_round
            case rel => exact ⟨k + 1, by omega, by go_num, fun j hj => by
              by_cases e : j = k
              · subst e; exact HE.out
              · exact HK.out j (by omega)⟩
            case measure => simp [intOf]; omega
        · go_wp2
          go_round
          case rel => exact ⟨p + 1, by omega, by go_num, fun q j hq hj => by
            by_cases e : q = p
            · subst e; exact HK.out j (by omega)
            · exact HP.out q j (by omega) hj⟩
          case measure => simp [intOf]; omega
    · have HR2 : Hid (r = false) := by rw [HR.out, cnt_zero_iff S.fd n (fun q k hq hk => HP.out q k (by omega) hk)]; simp [Hid]
      go_wp2
      go_ret
      exact ⟨by rw [HR2.out]; rfl, rfl⟩
end
end Go.Proofs.Ytdiginkpclbmdaa
