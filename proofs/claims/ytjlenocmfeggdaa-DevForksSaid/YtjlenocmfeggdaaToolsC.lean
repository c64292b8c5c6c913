/- copy of whole elements, of several cells each, over a row that was made for it. -/
import Derived.Test.YtjlenocmfeggdaaToolsB
namespace Go.Proofs.Ytjlenocmfeggdaa
open Go.RowKit
section
variable {P : Program} {w : World}
theorem run_copy_whole (dT sT ty elem : TypeId) (size : Nat) (hu : P.underlying dT = some (.slice elem)) (hs : (P.info? elem).map (·.size) = some size) (g n dCap : Nat) (A : Option Addr) (sCap : Nat) (cur : List Value) (t : TypeId) (cs : List Value)
    (hg : Blk w g t cur) (hr : Holds w A n size cs) (hlen : cur.length = n * size) (h1 : ∀ v ∈ cs, v.oneCell' = true) :
    ∃ w', (Builtin.copy_ #[dT, sT] ty #[.slice (some ⟨g, 0, none⟩) n dCap, .slice A n sCap]).run P w = .ok (goInt n) w' ∧ Blk w' g t cs ∧ Keep (· = g) w w' ∧ w'.heap.size = w.heap.size := by
  cases hq : P.info? elem with
  | none => simp [hq] at hs
  | some i =>
    have hi : i.size = size := by simpa [hq] using hs
    rcases hr with ⟨rfl, rfl, rfl⟩ | ⟨ad, rfl, hl, hc⟩
    · have : cur = [] := List.eq_nil_of_length_eq_zero (by rw [hlen]; simp)
      subst this
      exact ⟨w, by simp [Builtin.copy_, run_underlying hu, Builtin.lenOf, Builtin.firstCells, sizeOf, typeInfo, hq, storeCells], hg, Keep.refl _ _, rfl⟩
    · have hld := run_loadCells_list (P := P) w ad cs hc
      have hst := run_storeCells_at P g 0 t cs 0 cur.toArray w hg (by simp [hlen, hl]) h1
      have e : (List.take (0 + 0) cur.toArray.toList ++ cs ++ List.drop (0 + 0 + cs.length) cur.toArray.toList) = cs := by simp [hl, hlen]
      rw [e] at hst
      rw [hl] at hld
      obtain ⟨W, hW⟩ : ∃ W, W = w.setRow g cs.toArray := ⟨_, rfl⟩
      rw [← hW] at hst
      have hm : Nat.min n n = n := Nat.min_self n
      have hrun : (Builtin.copy_ #[dT, sT] ty #[.slice (some ⟨g, 0, none⟩) n dCap, .slice (some ad) n sCap]).run P w = .ok (goInt n) W := by
        simp [Builtin.copy_, run_underlying hu, Builtin.lenOf, Builtin.firstCells, sizeOf, typeInfo, hq, hi, hm, hld, hst]
      exact ⟨W, hrun, by rw [hW]; exact hg.setRow cs, by rw [hW]; exact Keep.setRow w g _, by rw [hW]; simp [World.setRow]⟩
theorem step_copy_whole {ops : Array Oper} {o : Oper} {a : Act} {K : Act → World → Prop} {Q : Exit → Act → World → Prop} {E : Prop} (hgd : o.guard = none) (d s : Operand) (dT sT : TypeId)
    (ho : o.op = .call { callee := .builtin .copy, args := #[d, s], argTypes := #[dT, sT] }) (elem : TypeId) (size : Nat) (hu : P.underlying dT = some (.slice elem)) (hs : (P.info? elem).map (·.size) = some size) (g n dCap : Nat) (A : Option Addr) (sCap : Nat)
    (hd : a.eval d = .slice (some ⟨g, 0, none⟩) n dCap) (hsv : a.eval s = .slice A n sCap) (cur : List Value) (t : TypeId) (cs : List Value) (hg : Blk w g t cur) (hr : Holds w A n size cs) (hlen : cur.length = n * size) (h1 : ∀ v ∈ cs, v.oneCell' = true)
    (h : ∀ w', Blk w' g t cs → Keep (· = g) w w' → w'.heap.size = w.heap.size → K (a.put o.dst (goInt n)) w') :
    if Region.wanted o (yielded ops a.tmps) = true then Oper.wp P o a w K Q else E := by
  have hw : Region.wanted o (yielded ops a.tmps) = true := by simp [Region.wanted, hgd]
  rw [if_pos hw]
  obtain ⟨w', hrun, h2, h3, h4⟩ := run_copy_whole (P := P) (w := w) dT sT o.type elem size hu hs g n dCap A sCap cur t cs hg hr hlen h1
  unfold Oper.wp execOp
  simp only [ho, resolve, invoke, builtin, Sem.run_bind, Sem.run_pure, Result.andThen_ok, List.map_toArray, List.map_cons, List.map_nil, hd, hsv, hrun]
  exact h w' h2 h3 h4
end
end Go.Proofs.Ytjlenocmfeggdaa
