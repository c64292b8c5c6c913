/- The laws' arguments, opened: deeds, an Open. -/
import Derived.Test.YtdiginkpclbmdaaRows
import Derived.Test.YtdiginkpclbmdaaPlay
import Derived.ProofKit
import Derived.OpenShut
import Derived.Carry
import Derived.Deep.Slices
import Derived.Deep.Fields
import Derived.ChangeSame
namespace Go.Proofs.Ytdiginkpclbmdaa
open Go.ChangeShapes Go.WideShapes Go.ChangeAt Go.RowKit Go.Deep
theorem Try.own : ownKnob Try.prog.godebug = none := by kernel_rfl
theorem Try.laidOut : laidOutB Try.prog = true := by kernel_rfl
theorem fld {fs : Array Field} {i o t : Nat} (h : (fs[i]?).map (fun f => (f.offset, f.type)) = some (o, t)) : ∃ f, fs[i]? = some f ∧ f.offset = o ∧ f.type = t := by
  cases hf : fs[i]? with
  | none => rw [hf] at h; cases h
  | some f => rw [hf] at h; simp at h; exact ⟨f, rfl, h.1, h.2⟩
theorem fields32 : Try.prog.underlying 32 = some (.struct (Try.prog.fieldsOf 32)) := by kernel_rfl
theorem fields30 : Try.prog.underlying 30 = some (.struct (Try.prog.fieldsOf 30)) := by kernel_rfl
theorem cells32 : Try.prog.cellsOf 32 = 7 := by kernel_rfl
theorem cells30 : Try.prog.cellsOf 30 = 3 := by kernel_rfl
theorem cells3 : Try.prog.cellsOf 3 = 1 := by kernel_rfl
theorem cells28 : Try.prog.cellsOf 28 = 1 := by kernel_rfl
theorem un3 : Try.prog.underlying 3 = some (.int .i64) := by kernel_rfl
theorem un28 : Try.prog.underlying 28 = some (.int .u8) := by kernel_rfl
section
variable {H : Type} {enc : TypeId × Value → H} {w : World} {base : Nat} {spare : Nat → Bool} {held : Bool}
theorem read_open {fuel : Nat} {cs : List Value} {x : DataW H × List MemPlace} (h : DataW.trod enc Try.prog w base spare held fuel 30 cs = some x) : ∃ o : Op3, cs = opc o := by
  obtain ⟨xs, n, _, _, hlen, hxl, hg⟩ := DataW.trod_struct fields30 h
  rw [cells30] at hlen
  match cs, hlen with
  | [c0, c1, c2], _ =>
    have one : ∀ (i o t : Nat) (k : IntKind) (c : Value), ((Try.prog.fieldsOf 30)[i]?).map (fun f => (f.offset, f.type)) = some (o, t) → Try.prog.cellsOf t = 1 → Try.prog.underlying t = some (.int k) → (List.drop o [c0, c1, c2]).take 1 = [c] → ∃ z : Int, c = .int k z := by
      intro i o t k c hf hc hu hd
      obtain ⟨f, hf, ho, ht⟩ := fld hf
      have h1 := hg i f hf
      rw [ho, ht, hc, hd, List.getElem?_eq_getElem (by have := (Array.getElem?_eq_some_iff.1 hf).1; omega)] at h1
      obtain ⟨z, hz, _⟩ := DataW.trod_int hu h1
      injection hz with hz
      exact ⟨z, hz⟩
    obtain ⟨z0, rfl⟩ := one 0 0 28 .u8 c0 (by kernel_rfl) cells28 un28 rfl
    obtain ⟨z1, rfl⟩ := one 1 1 3 .i64 c1 (by kernel_rfl) cells3 un3 rfl
    obtain ⟨z2, rfl⟩ := one 2 2 3 .i64 c2 (by kernel_rfl) cells3 un3 rfl
    exact ⟨⟨z0, z1, z2⟩, rfl⟩
theorem read_deed {fuel : Nat} {cs : List Value} {x : DataW H × List MemPlace} (h : DataW.trod enc Try.prog w base spare held fuel 32 cs = some x) : ∃ d : Deed, cs = dcells d := by
  obtain ⟨xs, n, _, _, hlen, hxl, hg⟩ := DataW.trod_struct fields32 h
  rw [cells32] at hlen
  match cs, hlen with
  | [c0, c1, c2, c3, c4, c5, c6], _ =>
    have at_ : ∀ (i o t : Nat), ((Try.prog.fieldsOf 32)[i]?).map (fun f => (f.offset, f.type)) = some (o, t) → ∃ y, DataW.trod enc Try.prog w base spare held n t ((List.drop o [c0, c1, c2, c3, c4, c5, c6]).take (Try.prog.cellsOf t)) = some y := by
      intro i o t hf
      obtain ⟨f, hf, ho, ht⟩ := fld hf
      have h1 := hg i f hf
      rw [ho, ht, List.getElem?_eq_getElem (by have := (Array.getElem?_eq_some_iff.1 hf).1; omega)] at h1
      exact ⟨_, h1⟩
    have one : ∀ (i o : Nat) (c : Value), ((Try.prog.fieldsOf 32)[i]?).map (fun f => (f.offset, f.type)) = some (o, 3) → (List.drop o [c0, c1, c2, c3, c4, c5, c6]).take 1 = [c] → ∃ z : Int, c = .int .i64 z := by
      intro i o c hf hd
      obtain ⟨y, hy⟩ := at_ i o 3 hf
      rw [cells3, hd] at hy
      obtain ⟨z, hz, _⟩ := DataW.trod_int un3 hy
      injection hz with hz
      exact ⟨z, hz⟩
    obtain ⟨z0, rfl⟩ := one 0 0 c0 (by kernel_rfl) rfl
    obtain ⟨z1, rfl⟩ := one 1 1 c1 (by kernel_rfl) rfl
    obtain ⟨z2, rfl⟩ := one 2 2 c2 (by kernel_rfl) rfl
    obtain ⟨z3, rfl⟩ := one 3 3 c3 (by kernel_rfl) rfl
    obtain ⟨y, hy⟩ := at_ 4 4 30 (by kernel_rfl)
    rw [cells30] at hy
    obtain ⟨o, ho⟩ := read_open hy
    refine ⟨⟨z0, z1, z2, z3, o⟩, ?_⟩
    have e : [c4, c5, c6] = opc o := ho
    unfold opc at e
    simp at e
    obtain ⟨rfl, rfl, rfl⟩ := e
    rfl
theorem open_deeds {r : Reach} {b0 : Nat} {v : Value} {d : DataW H} {ps : List MemPlace} (hv : Value.okWide Try.prog w r b0 22 v) (h : DataW.Trod enc Try.prog w base spare held 22 v d ps) : ∃ ds, Deeds w v ds := by
  obtain ⟨A, len', cap', rfl⟩ := okWide_slice Try.underlying22 hv
  obtain ⟨fuel, hf⟩ := h
  rcases open_slice Try.underlying22 hf with ⟨h0, _⟩ | ⟨a, len, cap, m, n, D, Pl, hcs, hb, hl, hm, hmm, _, hi⟩
  · simp [Value.cells] at h0
    obtain ⟨rfl, rfl, rfl⟩ := h0
    exact ⟨[], .inl ⟨rfl, rfl⟩⟩
  · simp [Value.cells] at hcs
    obtain ⟨rfl, rfl, rfl⟩ := hcs
    have hle : len' ≤ m := by rw [hmm]; split <;> omega
    have key : ∀ i, i < len' → ∃ dd : Deed, ∀ j u, (dcells dd)[j]? = some u → w.cell? (a.add (i * 7 + j)) = some u := by
      intro i hil
      obtain ⟨cs, hc, ht⟩ := hi i (by omega)
      obtain ⟨dd, rfl⟩ := read_deed ht
      refine ⟨dd, fun j u hu => ?_⟩
      rw [cells32] at hc
      obtain ⟨_, _, hat⟩ := World.cells?_some hc
      have hj : j < 7 := by
        rcases Nat.lt_or_ge j 7 with h | h
        · exact h
        · rw [List.getElem?_eq_none (by simpa [dcells] using h)] at hu; cases hu
      rw [← Go.Deep.add_add, hat j hj, hu]
    haveI : Inhabited Deed := ⟨zeroD⟩
    obtain ⟨V, hV⟩ := choose_lt (α := Deed) key
    refine ⟨(List.range len').map V, .inr ⟨a, cap', by simp, by simp; omega, fun i dd hd j u hu => ?_⟩⟩
    rw [List.getElem?_map] at hd
    rcases Nat.lt_or_ge i len' with h | h
    · rw [List.getElem?_range h] at hd
      simp at hd
      subst hd
      exact hV i h j u hu
    · rw [List.getElem?_eq_none (by simpa using h)] at hd; cases hd
end
end Go.Proofs.Ytdiginkpclbmdaa
