/- What the law FdsEnds counts, as plain data. -/
import Derived.Test.YtdiginkpclbmdaaPlays
namespace Go.Proofs.Ytdiginkpclbmdaa
/-- how many there are that somebody has -/
def lc (fd : Nat → Nat → Nat) (N : Nat) : Nat := cntB (fun i => decide (0 < cnt fd (i + 1))) N
def liveC (S : St) : Nat := lc S.fd S.all.length
theorem lc_congr {fd fd' : Nat → Nat → Nat} {N : Nat} (h : ∀ m, 0 < m → m ≤ N → (0 < cnt fd' m ↔ 0 < cnt fd m)) : lc fd' N = lc fd N :=
  cntB_congr N fun i hi => by
    have := h (i + 1) (by omega) (by omega)
    rw [Bool.eq_iff_iff]; simpa using this
theorem lc_begin (S : St) (p : Int) : liveC (beginS S p) = liveC S := by unfold beginS; split <;> rfl
theorem lc_shut1 (S : St) (p k : Nat) (hp : p < 6) (hk : k < 8) (hle : S.fd p k ≤ S.all.length) :
    lc (S.close p k).fd S.all.length + (if S.fd p k ≠ 0 ∧ cnt (S.close p k).fd (S.fd p k) = 0 then 1 else 0) = lc S.fd S.all.length := by
  by_cases h0 : S.fd p k = 0
  · rw [if_neg (by omega), close_same S h0]; rfl
  · have h := cntB_upd (f := fun i => decide (0 < cnt S.fd (i + 1))) (g := fun i => decide (0 < cnt (S.close p k).fd (i + 1))) (i := S.fd p k - 1) S.all.length (by omega) (fun j hj hne => by
      have hc := cnt_setFd S.fd p k 0 (j + 1) hp hk
      rw [if_neg (by omega), if_neg (by omega)] at hc
      show decide (0 < cnt (setFd S.fd p k 0) (j + 1)) = _
      rw [show cnt (setFd S.fd p k 0) (j + 1) = cnt S.fd (j + 1) by omega])
    simp only [show S.fd p k - 1 + 1 = S.fd p k by omega] at h
    have hpos : 0 < cnt S.fd (S.fd p k) := cnt_pos hp hk
    rw [if_pos (by simpa using hpos)] at h
    unfold lc
    by_cases hz : cnt (S.close p k).fd (S.fd p k) = 0
    · rw [if_pos ⟨h0, hz⟩]
      rw [if_neg (by simp [hz])] at h
      exact h
    · rw [if_neg (by omega)]
      rw [if_pos (by simp; omega)] at h
      omega
theorem lc_shut (S : St) (hi : S.Inv) (p : Nat) (hp : p < 6) : ∀ k, k ≤ 8 → (outs S p k).length + lc (S.shut p k).fd S.all.length = lc S.fd S.all.length
  | 0, _ => by simp [outs, St.shut]
  | k + 1, hk => by
    have ih := lc_shut S hi p hp k (by omega)
    have hfd : (S.shut p k).fd p k = S.fd p k := by rw [shut_fd, if_neg (by omega)]
    have h1 := lc_shut1 (S.shut p k) p k hp (by omega) (by rw [hfd, shut_all]; exact hi.le p k hp (by omega))
    rw [hfd, shut_all] at h1
    show (outs S p k ++ if S.fd p k ≠ 0 ∧ cnt (S.shut p (k + 1)).fd (S.fd p k) = 0 then [S.what (S.fd p k)] else []).length + lc ((S.shut p k).close p k).fd S.all.length = _
    rw [List.length_append]
    show _ + (if S.fd p k ≠ 0 ∧ cnt ((S.shut p k).close p k).fd (S.fd p k) = 0 then [S.what (S.fd p k)] else []).length + _ = _
    by_cases hz : S.fd p k ≠ 0 ∧ cnt ((S.shut p k).close p k).fd (S.fd p k) = 0
    · rw [if_pos hz] at h1 ⊢; simp; omega
    · rw [if_neg hz] at h1 ⊢; simp; omega
theorem lc_end (S : St) (hi : S.Inv) (p : Int) : (endO S p).length + liveC (endS S p) = liveC S := by
  unfold endO endS
  rcases mayE_cases S p with ⟨hm, _⟩ | ⟨hm, q, rfl, hq, hh⟩
  · rw [if_pos hm, if_pos hm]; simp
  · rw [if_neg (by rw [hm]; decide), if_neg (by rw [hm]; decide)]
    have := lc_shut S hi q hq 8 (Nat.le_refl _)
    show (outs S q 8).length + lc (S.shut q 8).fd (S.shut q 8).all.length = _
    rw [shut_all]; exact this
theorem lc_fork (S : St) (hi : S.Inv) (p q : Int) : liveC (forkS S p q) = liveC S := by
  unfold forkS
  split
  · rename_i hE
    have h2 : mayE S p ≠ 5 ∧ freshE S q = 0 := by
      unfold forkE at hE; split at hE
      · cases hE
      · rename_i h; exact ⟨h, hE⟩
    rcases mayE_cases S p with ⟨hm, _⟩ | ⟨hm, p, rfl, hp, hh⟩
    · exact absurd hm h2.1
    rcases freshE_cases S q with ⟨he, _⟩ | ⟨_, _, _, _, he⟩ | ⟨q, rfl, hq, hhq, _⟩
    · rw [h2.2] at he; cases he
    · rw [h2.2] at he; cases he
    show lc (S.fork p q).fd S.all.length = lc S.fd S.all.length
    refine lc_congr fun m hm0 _ => ⟨fun h => ?_, fun h => ?_⟩
    · obtain ⟨x, k, hx, hk, he⟩ := cnt_of_pos h
      simp only [St.fork] at he
      split at he
      · rw [← he]; exact cnt_pos hp hk
      · rw [← he]; exact cnt_pos hx hk
    · obtain ⟨x, k, hx, hk, he⟩ := cnt_of_pos h
      have hne : x ≠ q := by rintro rfl; rw [hi.none x k hx hk hhq] at he; omega
      have e : (S.fork p q).fd x k = m := by simp only [St.fork]; rw [if_neg hne]; exact he
      rw [← e]; exact cnt_pos hx hk
  · rfl
theorem lc_give (S : St) {p n : Nat} (hp : p < 6) (hf : S.free p < 8) (hl : 0 < cnt S.fd n) (N : Nat) : lc (S.give p n).fd N = lc S.fd N := by
  refine lc_congr fun m hm0 _ => ?_
  have hc := cnt_setFd S.fd p (S.free p) n m hp hf
  rw [S.free_zero p hf, if_neg (by omega)] at hc
  show 0 < cnt (setFd S.fd p (S.free p) n) m ↔ _
  by_cases e : n = m
  · subst e; rw [if_pos rfl] at hc; omega
  · rw [if_neg e] at hc; omega
theorem lc_dup (S : St) (p k : Int) : liveC (dupS S p k) = liveC S := by
  unfold dupS
  split
  · rename_i h
    have he : atE S p k = 0 := by
      unfold dupE at h; split at h
      · exact h
      · rename_i h2; simpa using h2
    obtain ⟨q, j, rfl, rfl, hq, hj, hh, hf⟩ := at_ok_cases S p k he
    have h8 : S.free q < 8 := by
      unfold dupE at h
      rw [if_neg (by simpa using he)] at h
      split at h
      · assumption
      · cases h
    exact lc_give S hq h8 (cnt_pos hq hj) _
  · rfl
theorem lc_open (S : St) (hi : S.Inv) (p : Int) (o : Op3) : liveC (openS S p o) = liveC S + (if (openE S p o).2 = 0 then 1 else 0) := by
  unfold openS
  split
  · rename_i h
    rcases mayE_cases S p with ⟨hm, _⟩ | ⟨hm, q, rfl, hq, hh⟩
    · unfold openE at h; rw [if_pos hm] at h; cases h
    have hf : S.free q < 8 := by
      unfold openE at h
      rw [if_neg (by rw [hm]; decide)] at h
      split at h
      · cases h
      · split at h
        · assumption
        · cases h
    have hnew : cnt S.fd (S.all.length + 1) = 0 := cnt_new hi (by omega)
    have hc := fun m => cnt_setFd S.fd q (S.free q) (S.all.length + 1) m hq hf
    show lc (setFd S.fd q (S.free q) (S.all.length + 1)) (S.push o).all.length = _
    rw [show (S.push o).all.length = S.all.length + 1 by simp [St.push]]
    unfold lc
    show cntB _ S.all.length + _ = _
    rw [if_pos (by have := hc (S.all.length + 1); rw [S.free_zero q hf, if_neg (by omega), if_pos rfl] at this; simp; omega)]
    congr 1
    refine cntB_congr _ fun i hi => ?_
    have := hc (i + 1)
    rw [S.free_zero q hf, if_neg (by omega), if_neg (by omega)] at this
    rw [show cnt (setFd S.fd q (S.free q) (S.all.length + 1)) (i + 1) = cnt S.fd (i + 1) by omega]
  · rfl
theorem lc_close (S : St) (hi : S.Inv) (p k : Int) : liveC (closeS S p k) + (if (closeE S p k).2 = true then 1 else 0) = liveC S := by
  unfold closeS closeE
  by_cases he : atE S p k = 0
  · obtain ⟨q, j, rfl, rfl, hq, hj, hh, hf⟩ := at_ok_cases S p k he
    rw [if_pos he, if_pos he]
    have := lc_shut1 S q j hq hj (hi.le q j hq hj)
    show lc (S.close q j).fd S.all.length + (if (cnt (S.close q j).fd (S.fd q j) == 0) = true then 1 else 0) = _
    by_cases hz : cnt (S.close q j).fd (S.fd q j) = 0
    · rw [if_pos ⟨hf, hz⟩] at this; rw [if_pos (by simpa using hz)]; exact this
    · rw [if_neg (by omega)] at this; rw [if_neg (by simpa using hz)]; exact this
  · rw [if_neg he, if_neg he]; simp
theorem lc_zero (S : St) (h : ∀ p k, p < 6 → k < 8 → S.fd p k = 0) : liveC S = 0 :=
  cntB_zero _ fun i _ => by
    have : cnt S.fd (i + 1) = 0 := cnt_zero_iff _ _ fun p k hp hk => by rw [h p k hp hk]; omega
    rw [this]; rfl
theorem end_zero (S : St) (hi : S.Inv) {p : Nat} (hp : p < 6) : (∀ k, k < 8 → (endS S p).fd p k = 0) ∧ ∀ x k, S.fd x k = 0 → (endS S p).fd x k = 0 := by
  unfold endS
  rcases mayE_cases S p with ⟨hm, h1 | h1 | ⟨q, hq, hq6, hh⟩⟩ | ⟨hm, q, hq, hq6, hh⟩
  · omega
  · omega
  · rw [if_pos hm]
    have : p = q := by omega
    subst this
    exact ⟨fun k hk => hi.none p k hp hk hh, fun _ _ h => h⟩
  · rw [if_neg (by rw [hm]; decide)]
    have : p = q := by omega
    subst this
    refine ⟨fun k hk => ?_, fun x k h => ?_⟩
    · show (S.shut p 8).fd p k = 0; rw [shut_fd, if_pos ⟨rfl, hk⟩]
    · show (S.shut p 8).fd x k = 0; rw [shut_fd]; split
      · rfl
      · exact h
end Go.Proofs.Ytdiginkpclbmdaa
