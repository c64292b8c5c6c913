/- What Copy's loops keep. -/
import Derived.Test.YtdiginkpclbmdaaRCopy
namespace Go.Proofs.Ytdiginkpclbmdaa
open Go.RowKit
/-- the new block of an old one -/
def lk (M : List (Nat × Nat)) (b : Nat) : Nat := ((M.find? fun x => x.1 == b).map (·.2)).getD 0
theorem fM_none {b : Nat} : ∀ {M : List (Nat × Nat)} {i : Nat}, fM b M i = none → ∀ x ∈ M, x.1 ≠ b
  | [], _, _, x, hx => by cases hx
  | y :: M, i, h, x, hx => by
    unfold fM at h
    split at h
    · cases h
    · rename_i hy
      rcases List.mem_cons.1 hx with rfl | hx
      · exact hy
      · exact fM_none h x hx
theorem fM_some {b : Nat} : ∀ {M : List (Nat × Nat)} {i : Nat}, (∃ x ∈ M, x.1 = b) → ∃ j, fM b M i = some (j, pt (lk M b))
  | [], _, ⟨x, hx, _⟩ => by cases hx
  | y :: M, i, ⟨x, hx, hb⟩ => by
    unfold fM lk
    by_cases hy : y.1 = b
    · rw [if_pos hy, List.find?_cons_of_pos (by simpa using hy)]; exact ⟨i, rfl⟩
    · rw [if_neg hy, List.find?_cons_of_neg (by simpa using hy)]
      rcases List.mem_cons.1 hx with rfl | hx
      · exact absurd hb hy
      · exact fM_some ⟨x, hx, hb⟩
theorem lk_mem {M : List (Nat × Nat)} {b : Nat} (h : ∃ x ∈ M, x.1 = b) : (b, lk M b) ∈ M := by
  unfold lk
  cases hf : M.find? (fun x => x.1 == b) with
  | none =>
    obtain ⟨x, hx, hb⟩ := h
    have := List.find?_eq_none.1 hf x hx
    simp [hb] at this
  | some x =>
    have h1 := List.find?_some hf
    have h2 := List.mem_of_find?_eq_some hf
    have : x.1 = b := by simpa using h1
    subst this
    exact h2
theorem lk_old {M : List (Nat × Nat)} {b : Nat} (y : Nat × Nat) (h : ∃ x ∈ M, x.1 = b) : lk (M ++ [y]) b = lk M b := by
  unfold lk
  rw [List.find?_append]
  cases hf : M.find? (fun x => x.1 == b) with
  | none =>
    obtain ⟨x, hx, hb⟩ := h
    have := List.find?_eq_none.1 hf x hx
    simp [hb] at this
  | some x => rfl
theorem lk_new {M : List (Nat × Nat)} {b nb : Nat} (h : ∀ x ∈ M, x.1 ≠ b) : lk (M ++ [(b, nb)]) b = nb := by
  unfold lk
  rw [List.find?_append, List.find?_eq_none.2 (fun x hx => by simpa using h x hx)]
  simp
/-- the pairs: each is of a live thing, and its new block says what the old one says -/
structure MInv (w wr : World) (S : St) (sb : Nat → Nat) (M : List (Nat × Nat)) : Prop where
  mem : ∀ x ∈ M, ∃ n, Live S n ∧ x.1 = sb n ∧ Blk wr x.2 72 (shc (S.what n) (cnt S.fd n)) ∧ w.heap.size ≤ x.2
  val : ∀ x ∈ M, ∀ y ∈ M, x.2 = y.2 → x = y
/-- q of the table's cells are laid; the processes below p are whole; of process p the descriptors below k -/
structure CInv (w wr : World) (T' m c : Nat) (S : St) (sb pb' : Nat → Nat) (M : List (Nat × Nat)) (q p k : Nat) : Prop where
  tab : Blk wr T' 64 (row 6 (fun j => if j < q then tcell S pb' j else .pointer none))
  tabN : w.heap.size ≤ T'
  map : MapAt wr m M
  cel : wr.cell? ⟨c, 0, none⟩ = some (.map (some m))
  minv : MInv w wr S sb M
  proc : ∀ j, j < p → S.has j = true → Blk wr (pb' j) 67 (row 8 (pcell S (fun n => lk M (sb n)) j))
  cur : q = p + 1 → Blk wr (pb' p) 67 (row 8 (fun i => if i < k then pcell S (fun n => lk M (sb n)) p i else .pointer none))
  new : ∀ j, j < q → S.has j = true → w.heap.size ≤ pb' j
  inj : ∀ i j, i < q → j < q → S.has i = true → S.has j = true → pb' i = pb' j → i = j
  seen : ∀ j i, (j < p ∨ (j = p ∧ i < k)) → i < 8 → S.fd j i ≠ 0 → ∃ x ∈ M, x.1 = sb (S.fd j i)
  keep : Keep none_ w wr
end Go.Proofs.Ytdiginkpclbmdaa
