/- append where there is room, as a step of a region that draws; clear behind what is owned; a store into what is owned. -/
import Derived.Test.YtjlenocmfeggdaaTools
import Derived.Laws.CopyRow
namespace Go.Proofs.Ytjlenocmfeggdaa
open Go.RowKit
section
variable {P : Program} {w : World}
theorem step_append_fits {ops : Array Oper} {o : Oper} {a : Act} {K : Act → World → Prop} {Q : Exit → Act → World → Prop} {E : Prop} (hgd : o.guard = none) (s x : Operand) (t : TypeId)
    (ho : o.op = .call { callee := .builtin .append, args := #[s, x], argTypes := #[t, t] })
    (base : Nat) (e : TypeId) (i : TypeInfo) (size : Nat) (ht : P.underlying t = some (.slice e)) (hi : P.info? e = some i) (hsize : i.size = size)
    (g n cap : Nat) (xs : List Value) (hs : a.eval s = .slice (some ⟨g, 0, none⟩) n cap) (hown : w.ownsRow base e size (.slice (some ⟨g, 0, none⟩) n cap) n xs)
    (ad : Addr) (m c : Nat) (news : List Value) (hx : a.eval x = .slice (some ad) m c) (hl : news.length = m * size) (hnews : ∀ j u, news[j]? = some u → w.cell? (ad.add j) = some u) (h1 : ∀ u ∈ news, u.oneCell' = true)
    (hroom : n + m ≤ cap)
    (h : ∀ w', w'.ownsRow base e size (.slice (some ⟨g, 0, none⟩) (n + m) cap) (n + m) (xs ++ news) → w.grownBy w' (some g) → K (a.put o.dst (.slice (some ⟨g, 0, none⟩) (n + m) cap)) w') :
    if Region.wanted o (yielded ops a.tmps) = true then Oper.wp P o a w K Q else E := by
  have hw : Region.wanted o (yielded ops a.tmps) = true := by simp [Region.wanted, hgd]
  rw [if_pos hw]
  obtain ⟨w', hrun, h2, h3⟩ := run_append_fits (P := P) w base t o.type e i size ht hi hsize g n cap xs hown ad m c news hl hnews h1 hroom
  unfold Oper.wp execOp
  simp only [ho, resolve, invoke, builtin, Sem.run_bind, Sem.run_pure, Result.andThen_ok, List.map_toArray, List.map_cons, List.map_nil, hs, hx, hrun]
  exact h w' h2 h3
theorem step_copy_keep {ops : Array Oper} {o : Oper} {a : Act} {K : Act → World → Prop} {Q : Exit → Act → World → Prop} {E : Prop} (hgd : o.guard = none) (d s : Operand) (dT sT : TypeId)
    (ho : o.op = .call { callee := .builtin .copy, args := #[d, s], argTypes := #[dT, sT] }) (elem : TypeId) (hu : P.underlying dT = some (.slice elem)) (hsz : (P.info? elem).map (·.size) = some 1)
    (g off dLen dCap : Nat) (ad : Addr) (sLen sCap : Nat) (hd : a.eval d = .slice (some ⟨g, off, none⟩) dLen dCap) (hs : a.eval s = .slice (some ad) sLen sCap)
    (cur : List Value) (t : TypeId) (hg : Blk w g t cur) (cs : List Value) (hn : cs.length = Nat.min sLen dLen)
    (hsrc : ∀ j v, cs[j]? = some v → w.cell? (ad.add j) = some v) (hfit : off + cs.length ≤ cur.length) (h1 : ∀ v ∈ cs, v.oneCell' = true) (N : Nat) (hN : cs.length = N)
    (h : ∀ w', Hid (Blk w' g t (splice cur off cs)) → Keep (· = g) w w' → w'.heap.size = w.heap.size → K (a.put o.dst (goInt N)) w') :
    if Region.wanted o (yielded ops a.tmps) = true then Oper.wp P o a w K Q else E := by
  subst hN
  have hw : Region.wanted o (yielded ops a.tmps) = true := by simp [Region.wanted, hgd]
  rw [if_pos hw]
  have hrun := run_copy_row (P := P) w dT sT o.type elem g off dLen dCap ad sLen sCap cur.toArray t cs hu hsz hg hn hsrc (by simpa using hfit) h1
  have hK := h _ (show Blk _ _ _ _ from by simpa [splice] using hg.setRow (splice cur off cs)) (Keep.setRow w g _) (by simp [World.setRow])
  unfold Oper.wp
  have hK' : K (a.put o.dst (goInt cs.length)) (w.setRow g (List.take off cur ++ (cs ++ List.drop (off + cs.length) cur)).toArray) := by simpa [splice] using hK
  simp [execOp, ho, resolve, invoke, builtin, hd, hs, hrun, Result.andThen]
  exact hK'
theorem run_clear_own (base : Nat) (t ty e : TypeId) (z : Value) (size : Nat) (ht : P.underlying t = some (.slice e)) (hv : ∀ w, (zeroValue e).run P w = .ok z w) (hzs : z.cells.size = size) (hz1 : ∀ u ∈ z.cells.toList, u.oneCell' = true)
    (g n cap : Nat) (xs : List Value) (hown : w.ownsRow base e size (.slice (some ⟨g, 0, none⟩) n cap) n xs) (k c : Nat) (hk : n + k ≤ cap) :
    ∃ w', (Builtin.clear_ #[t] ty #[.slice (some ⟨g, n * size, none⟩) k c]).run P w = .ok (.tuple #[]) w' ∧ w'.ownsRow base e size (.slice (some ⟨g, 0, none⟩) n cap) n xs ∧ Keep (· = g) w w' ∧ w'.heap.size = w.heap.size := by
  cases k with
  | zero => exact ⟨w, by simp [Builtin.clear_, run_underlying ht], hown, Keep.refl _ _, rfl⟩
  | succ k =>
    obtain ⟨hl, hx⟩ := hown
    rcases hx with ⟨h, _⟩ | ⟨g', cap', cur, h, hbg, hg, hnc, hcm, hcs, htake⟩
    · cases h
    · have hge : g' = g ∧ cap' = cap := by injection h with h1 h2 h3; injection h1 with h1; injection h1 with h1; exact ⟨h1.symm, h3.symm⟩
      obtain ⟨rfl, rfl⟩ := hge
      have hlen : (Builtin.zeroCells z.cells (k + 1)).toList.length = (k + 1) * size := by simp [Builtin.zeroCells, hzs]
      have hone : ∀ v ∈ (Builtin.zeroCells z.cells (k + 1)).toList, v.oneCell' = true := by
        intro v hv'
        simp only [Builtin.zeroCells, Array.toList_map, List.mem_map] at hv'
        obtain ⟨j, hj, rfl⟩ := hv'
        have hj' : j < (k + 1) * z.cells.size := by simpa using hj
        have hpos : 0 < z.cells.size := Nat.pos_of_ne_zero (fun e => by rw [e] at hj'; omega)
        have hm : j % z.cells.size < z.cells.size := Nat.mod_lt _ hpos
        apply hz1
        rw [getElem!_pos z.cells (j % z.cells.size) hm]
        exact Array.getElem_mem_toList hm
      have hfit : n * size + 0 + (Builtin.zeroCells z.cells (k + 1)).toList.length ≤ cur.size := by rw [hlen, hcs, Nat.add_zero, ← Nat.add_mul]; exact Nat.mul_le_mul_right _ hk
      have hst := run_storeCells_at (P := P) g' (n * size) e (Builtin.zeroCells z.cells (k + 1)).toList 0 cur w hg hfit hone
      obtain ⟨W, hW⟩ : ∃ W, W = w.setRow g' (cur.toList.take (n * size + 0) ++ (Builtin.zeroCells z.cells (k + 1)).toList ++ cur.toList.drop (n * size + 0 + (Builtin.zeroCells z.cells (k + 1)).toList.length)).toArray := ⟨_, rfl⟩
      rw [← hW] at hst
      have hrun : (Builtin.clear_ #[t] ty #[.slice (some ⟨g', n * size, none⟩) (k + 1) c]).run P w = .ok (.tuple #[]) W := by simp [Builtin.clear_, run_underlying ht, hv, hst]
      clear hst
      subst hW
      generalize (Builtin.zeroCells z.cells (k + 1)).toList = L at *
      have hcz : cur.toList.length = cur.size := Array.length_toList
      refine ⟨_, hrun, ⟨hl, .inr ⟨g', cap', _, rfl, hbg, setRow_heap w g' cur _ e _ hg, hnc, hcm, ?_, ?_⟩⟩, Keep.setRow w g' _, by simp [World.setRow]⟩
      · simp only [List.size_toArray, List.length_append, List.length_take, List.length_drop, hcz]
        omega
      · have h0 : min (n * size + 0) cur.toList.length = n * size := by rw [Array.length_toList]; omega
        rw [← htake]
        simp only [List.append_assoc]
        rw [List.take_append_of_le_length (by rw [List.length_take, h0]; exact Nat.le_refl _), Nat.add_zero, List.take_take, Nat.min_self]
theorem wpList_clear_own {ops : Array Oper} {rest : List Oper} {o : Oper} {a : Act} {Q : Exit → Act → World → Prop} (hgd : o.guard = none) (s : Operand) (t : TypeId)
    (ho : o.op = .call { callee := .builtin .clear, args := #[s], argTypes := #[t] })
    (base : Nat) (e : TypeId) (z : Value) (size : Nat) (ht : P.underlying t = some (.slice e)) (hv : ∀ w, (zeroValue e).run P w = .ok z w) (hzs : z.cells.size = size) (hz1 : ∀ u ∈ z.cells.toList, u.oneCell' = true)
    (g n cap : Nat) (xs : List Value) (hown : w.ownsRow base e size (.slice (some ⟨g, 0, none⟩) n cap) n xs) (k c : Nat) (hk : n + k ≤ cap) (hs : a.eval s = .slice (some ⟨g, n * size, none⟩) k c)
    (h : ∀ w', w'.ownsRow base e size (.slice (some ⟨g, 0, none⟩) n cap) n xs → Keep (· = g) w w' → w'.heap.size = w.heap.size → wpList P ops Q rest (a.put o.dst (.tuple #[])) w') :
    wpList P ops Q (o :: rest) a w := by
  refine wpList_plain hgd fun K hK => ?_
  obtain ⟨w', hrun, h2, h3, h4⟩ := run_clear_own (P := P) (w := w) base t o.type e z size ht hv hzs hz1 g n cap xs hown k c hk
  unfold Oper.wp execOp
  simp only [ho, resolve, invoke, builtin, Sem.run_bind, Sem.run_pure, Result.andThen_ok, List.map_toArray, List.map_cons, List.map_nil, hs, hrun]
  exact hK _ _ (h w' h2 h3 h4)
end
end Go.Proofs.Ytjlenocmfeggdaa
