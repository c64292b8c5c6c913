/- A map that is keyed by pointers: what it finds, what a store does. -/
import Derived.Test.YtdiginkpclbmdaaLive
import Derived.LaidEql
import Derived.Carry
namespace Go.Proofs.Ytdiginkpclbmdaa
open Go.RowKit
def pt (b : Nat) : Value := .pointer (some ⟨b, 0, none⟩)
/-- a map's entries: pairs of blocks -/
def Pairs (es : Array MapEntry) (M : List (Nat × Nat)) : Prop := es.toList.map (fun e => (e.key, e.val)) = M.map (fun x => (pt x.1, pt x.2))
def fM (b : Nat) : List (Nat × Nat) → Nat → Option (Nat × Value)
  | [], _ => none
  | x :: M, i => if x.1 = b then some (i, pt x.2) else fM b M (i + 1)
/-- a block of plain cells -/
def Plain (w : World) (b : Nat) : Prop := ∃ cs t, w.heap[b]? = some (.cells cs t (0, 0))
theorem un65 : Try.prog.underlying 65 = some (.pointer 72) := by kernel_rfl
theorem run_ptrs {P : Program} {tp te : TypeId} {j : TypeInfo} (w : World) (d : Nat) (hp : P.underlying tp = some (.pointer te)) (hte : P.info? te = some j) (hsz : j.size ≠ 0) (a b : Nat) (ha : Plain w a) (hb : Plain w b) :
    (Op.equalIn (d + 1) tp (pt a) (pt b)).run P w = .ok (a == b) w := by
  unfold pt
  by_cases h : a = b
  · subst h
    simp [Op.equalIn, run_underlying hp, sizeOf, typeInfo, hte, run_sameAddr_same]
  · obtain ⟨ca, ta, ha⟩ := ha
    obtain ⟨cb, tb, hb⟩ := hb
    have := run_sameAddr_other (P := P) (w := w) (a := ⟨a, 0, none⟩) (b := ⟨b, 0, none⟩) (fun e => h (by injection e)) ha hb
    simp [Op.equalIn, run_underlying hp, sizeOf, typeInfo, hte, hsz, this, h]
theorem size72 : (Try.prog.info? 72).map (·.size) = some 4 := by kernel_rfl
theorem run_eq_pt (w : World) (a b : Nat) (ha : Plain w a) (hb : Plain w b) : (Op.equal 65 (pt a) (pt b)).run Try.prog w = .ok (a == b) w := by
  have hs := size72
  cases hi : Try.prog.info? 72 with
  | none => rw [hi] at hs; cases hs
  | some j =>
    rw [hi] at hs
    have : j.size = 4 := by simpa using hs
    exact run_ptrs w 9999 un65 hi (by omega) a b ha hb
theorem run_findAsking (w : World) (b : Nat) (hb : Plain w b) : ∀ (es : List MapEntry) (M : List (Nat × Nat)) (i : Nat), es.map (fun e => (e.key, e.val)) = M.map (fun x => (pt x.1, pt x.2)) → (∀ x ∈ M, Plain w x.1) →
    (Instr.findAsking 65 (pt b) es i).run Try.prog w = .ok (fM b M i) w
  | [], [], i, _, _ => by simp [Instr.findAsking, fM]
  | [], x :: M, i, h, _ => by simp at h
  | e :: es, [], i, h, _ => by simp at h
  | e :: es, x :: M, i, h, hM => by
    simp only [List.map_cons, List.cons.injEq, Prod.mk.injEq] at h
    obtain ⟨⟨hk, hv⟩, ht⟩ := h
    unfold Instr.findAsking fM
    simp only [Sem.run_bind, hk, run_eq_pt w b x.1 hb (hM x (by simp)), Result.andThen_ok]
    by_cases hx : x.1 = b
    · rw [if_pos hx, hx]; simp [hv]
    · rw [if_neg hx]
      have hne : (b == x.1) = false := by simp; omega
      rw [hne]
      simp only [Bool.false_eq_true, if_false]
      exact run_findAsking w b hb es M (i + 1) ht (fun y hy => hM y (by simp [hy]))
theorem un77 : Try.prog.underlying 77 = some (.map 65 65) := by kernel_rfl
theorem run_findKey (w : World) (b : Nat) (hb : Plain w b) (es : Array MapEntry) (M : List (Nat × Nat)) (h : Pairs es M) (hM : ∀ x ∈ M, Plain w x.1) : (Instr.findKey 65 (pt b) es.toList).run Try.prog w = .ok (fM b M 0) w := by
  unfold Instr.findKey
  simp only [Sem.run_bind, run_underlying un65, Result.andThen_ok]
  unfold Pairs at h
  cases hes : es.toList with
  | nil =>
    rw [hes] at h
    have : M = [] := by simpa using h.symm
    subst this
    simp [Instr.findNow, fM]
  | cons e r =>
    rw [hes] at h
    simp only [Instr.findNow, Instr.sameNow]
    exact run_findAsking w b hb (e :: r) M 0 h hM
theorem run_checkKey_pt (w : World) (b : Nat) (em : Bool) (n : Nat) : (Instr.checkKey em (n + 1) 65 (pt b)).run Try.prog w = .ok () w := by
  unfold Instr.checkKey pt
  simp [run_underlying un65]
theorem run_getMap {P : Program} {w : World} {r clock : Nat} {es : Array MapEntry} (h : w.heap[r]? = some (.map es clock)) : (getObj r).run P w = .ok (.map es clock) w := by
  simp [getObj, Sem.run, h]
theorem run_setMap {P : Program} {w : World} {r clock : Nat} {es : Array MapEntry} (o : Obj) (h : w.heap[r]? = some (.map es clock)) : (setObj r o).run P w = .ok () { w with heap := w.heap.setIfInBounds r o } := by
  simp [setObj, Sem.run, h]
/-- the map's own block -/
def MapAt (w : World) (m : Nat) (M : List (Nat × Nat)) : Prop := ∃ es clock, w.heap[m]? = some (.map es clock) ∧ Pairs es M
theorem run_lookup_pt (w : World) (m b : Nat) (M : List (Nat × Nat)) (hm : MapAt w m M) (hb : Plain w b) (hM : ∀ x ∈ M, Plain w x.1) :
    (Instr.lookup 77 (.map (some m)) (pt b) true).run Try.prog w = .ok (.tuple #[match fM b M 0 with | some (_, v) => v | none => .pointer none, .bool (fM b M 0).isSome]) w := by
  obtain ⟨es, clock, he, hp⟩ := hm
  unfold Instr.lookup
  have hz : (zeroValue 65).run Try.prog w = .ok (.pointer none) w := by kernel_rfl
  simp only [Sem.run_bind, run_underlying un77, Result.andThen_ok, run_getMap he, Sem.run_pure, run_checkKey_pt w b _ 9999, run_findKey w b hb es M hp hM]
  cases fM b M 0 with
  | none => simp [hz]
  | some x => simp
theorem run_update_pt (w : World) (m b nb : Nat) (M : List (Nat × Nat)) (hm : MapAt w m M) (hb : Plain w b) (hM : ∀ x ∈ M, Plain w x.1) (hn : fM b M 0 = none) :
    ∃ w', (Instr.mapUpdate 77 (.map (some m)) (pt b) (pt nb)).run Try.prog w = .ok () w' ∧ MapAt w' m (M ++ [(b, nb)]) ∧ Keep (· = m) w w' ∧ w'.heap.size = w.heap.size := by
  obtain ⟨es, clock, he, hp⟩ := hm
  unfold Instr.mapUpdate
  simp only [Sem.run_bind, run_underlying un77, Result.andThen_ok, run_getMap he, run_checkKey_pt w b _ 9999, run_findKey w b hb es M hp hM, hn, run_setMap _ he]
  have hlt := (Array.getElem?_eq_some_iff.1 he).1
  refine ⟨_, rfl, ⟨es.push { key := pt b, val := pt nb, born := clock }, clock + 1, by simp [hlt], ?_⟩, ⟨rfl, rfl, rfl, by simp, fun k hk hs => ?_⟩, by simp⟩
  · unfold Pairs at hp ⊢
    simp [hp]
  · have hne : m ≠ k := fun e => hs e.symm
    simp [hne]
end Go.Proofs.Ytdiginkpclbmdaa
