/- The laws' argument, opened: deeds. -/
import Derived.Test.YtjlenocmfeggdaaRows
import Derived.Test.YtjlenocmfeggdaaPlayA
import Derived.ProofKit
import Derived.OpenShut
import Derived.Carry
import Derived.Deep.Slices
import Derived.Deep.Fields
import Derived.ChangeSame
namespace Go.Proofs.Ytjlenocmfeggdaa
open Go.ChangeShapes Go.WideShapes Go.ChangeAt Go.RowKit Go.Deep
set_option maxRecDepth 100000
theorem Try.own : ownKnob Try.prog.godebug = none := by kernel_rfl
theorem Try.laidOut : laidOutB Try.prog = true := by kernel_rfl
theorem fld {fs : Array Field} {i o t : Nat} (h : (fs[i]?).map (fun f => (f.offset, f.type)) = some (o, t)) : ∃ f, fs[i]? = some f ∧ f.offset = o ∧ f.type = t := by
  cases hf : fs[i]? with
  | none => rw [hf] at h; cases h
  | some f => rw [hf] at h; simp at h; exact ⟨f, rfl, h.1, h.2⟩
theorem fields74 : Try.prog.underlying 74 = some (.struct (Try.prog.fieldsOf 74)) := by kernel_rfl
theorem fields44 : Try.prog.underlying 44 = some (.struct (Try.prog.fieldsOf 44)) := by kernel_rfl
theorem cells74 : Try.prog.cellsOf 74 = 8 := by kernel_rfl
theorem cells44 : Try.prog.cellsOf 44 = 5 := by kernel_rfl
theorem cells3 : Try.prog.cellsOf 3 = 1 := by kernel_rfl
theorem cells42 : Try.prog.cellsOf 42 = 1 := by kernel_rfl
theorem cells43 : ((Try.prog.fieldsOf 44)[4]?).map (fun f => (f.offset, Try.prog.underlying f.type, Try.prog.cellsOf f.type)) = some (4, some (.int .u8), 1) := by kernel_rfl
theorem cells35 : Try.prog.cellsOf 35 = 1 := by kernel_rfl
theorem cells5 : Try.prog.cellsOf 5 = 1 := by kernel_rfl
section
variable {H : Type} {enc : TypeId × Value → H} {w : World} {base : Nat} {spare : Nat → Bool} {held : Bool}
theorem read_bytes {fuel : Nat} {c : Value} {x : DataW H × List MemPlace} (h : DataW.trod enc Try.prog w base spare held fuel 35 [c] = some x) : ∃ l, Bytes w c l ∧ ∀ ad n k, c = .slice (some ad) n k → 0 < n → ad.block < w.heap.size := by
  rcases open_slice1 Try.underlying35 cells5 h with ⟨h0, _⟩ | ⟨a, len, cap, m, n, V, D, Pl, hcs, hb, hl, hm, hmm, _, hi⟩
  · have : c = .slice none 0 0 := by simpa using h0
    subst this
    exact ⟨[], ⟨none, 0, rfl, Nat.zero_le _, .inl ⟨rfl, rfl, rfl⟩⟩, fun ad n k e => by cases e⟩
  · have : c = .slice (some a) len cap := by simpa using hcs
    subst this
    have hle : len ≤ m := by rw [hmm]; split <;> omega
    have key : ∀ i, i < len → ∃ b : UInt8, w.cell? (a.add i) = some (byv b) := by
      intro i hil
      obtain ⟨h1, h2⟩ := hi i (by omega)
      obtain ⟨z, hz, _, hwf⟩ := DataW.trod_int Try.underlying5 h2
      have hz : V i = .int .u8 z := by simpa using hz
      rw [hz] at h1
      have hb : 0 ≤ z ∧ z < 256 := by
        unfold Lit.wf at hwf
        simp [IntKind.min, IntKind.max, IntKind.bits, IntKind.signed] at hwf
        omega
      refine ⟨UInt8.ofNat z.toNat, ?_⟩
      rw [h1]
      have : ((UInt8.ofNat z.toNat).toNat : Int) = z := by
        rw [UInt8.toNat_ofNat', Nat.mod_eq_of_lt (by omega)]; omega
      unfold byv
      rw [this]
    obtain ⟨V', hV⟩ := choose_lt (α := UInt8) key
    refine ⟨(List.range len).map V', ⟨some a, cap, by simp, by simp; omega, .inr ⟨a, rfl, by simp, fun j u hu => ?_⟩⟩, fun ad n k e hn => ?_⟩
    · have hj : j < len := by have := (List.getElem?_eq_some_iff.1 hu).1; simpa using this
      rw [hV j hj]
      simp [hj] at hu
      rw [← hu]
    · injection e with e1 e2 e3
      injection e1 with e1
      subst e1 e2 e3
      have := World.block_lt_of_cell? w _ (hV 0 hn)
      simpa [Addr.add] using this
theorem read_req {fuel : Nat} {cs : List Value} {x : DataW H × List MemPlace} (h : DataW.trod enc Try.prog w base spare held fuel 44 cs = some x) : ∃ r : Req, cs = reqc r := by
  obtain ⟨xs, n, _, _, hlen, hxl, hg⟩ := DataW.trod_struct fields44 h
  rw [cells44] at hlen
  match cs, hlen with
  | [c0, c1, c2, c3, c4], _ =>
    have at_ : ∀ (i o : Nat) (ds : TypeDesc) (c : Value), ((Try.prog.fieldsOf 44)[i]?).map (fun f => (f.offset, Try.prog.underlying f.type, Try.prog.cellsOf f.type)) = some (o, some ds, 1) → (List.drop o [c0, c1, c2, c3, c4]).take 1 = [c] → ∃ t y, Try.prog.underlying t = some ds ∧ DataW.trod enc Try.prog w base spare held n t [c] = some y := by
      intro i o ds c hf hd
      cases hq : (Try.prog.fieldsOf 44)[i]? with
      | none => rw [hq] at hf; cases hf
      | some f =>
        rw [hq] at hf
        simp only [Option.map_some, Option.some.injEq, Prod.mk.injEq] at hf
        obtain ⟨ho, hu, hc⟩ := hf
        have h1 := hg i f hq
        rw [ho, hc, hd, List.getElem?_eq_getElem (by have := (Array.getElem?_eq_some_iff.1 hq).1; omega)] at h1
        exact ⟨f.type, _, hu, h1⟩
    have one : ∀ (i o : Nat) (k : IntKind) (c : Value), ((Try.prog.fieldsOf 44)[i]?).map (fun f => (f.offset, Try.prog.underlying f.type, Try.prog.cellsOf f.type)) = some (o, some (.int k), 1) → (List.drop o [c0, c1, c2, c3, c4]).take 1 = [c] → ∃ z : Int, c = .int k z := by
      intro i o k c hf hd
      obtain ⟨t, y, hu, hy⟩ := at_ i o _ c hf hd
      obtain ⟨z, hz, _⟩ := DataW.trod_int hu hy
      injection hz with hz
      exact ⟨z, hz⟩
    obtain ⟨z0, rfl⟩ := one 0 0 .u32 c0 (by kernel_rfl) rfl
    obtain ⟨t1, y1, hu1, hy1⟩ := at_ 1 1 .bool c1 (by kernel_rfl) rfl
    obtain ⟨b, hb, _⟩ := DataW.trod_bool hu1 hy1
    injection hb with hb
    subst hb
    obtain ⟨z2, rfl⟩ := one 2 2 .i64 c2 (by kernel_rfl) rfl
    obtain ⟨z3, rfl⟩ := one 3 3 .i64 c3 (by kernel_rfl) rfl
    obtain ⟨z4, rfl⟩ := one 4 4 .u8 c4 (by kernel_rfl) rfl
    exact ⟨⟨z0, b, z2, z3, z4⟩, rfl⟩
def DeedOk (w : World) (d : Deed) : Prop := Bytes w d.bv d.b ∧ ∀ ad n c, d.bv = .slice (some ad) n c → 0 < n → ad.block < w.heap.size
theorem read_deed {fuel : Nat} {cs : List Value} {x : DataW H × List MemPlace} (h : DataW.trod enc Try.prog w base spare held fuel 74 cs = some x) : ∃ d : Deed, cs = dcells d ∧ DeedOk w d := by
  obtain ⟨xs, n, _, _, hlen, hxl, hg⟩ := DataW.trod_struct fields74 h
  rw [cells74] at hlen
  match cs, hlen with
  | [c0, c1, c2, c3, c4, c5, c6, c7], _ =>
    have at_ : ∀ (i o t : Nat), ((Try.prog.fieldsOf 74)[i]?).map (fun f => (f.offset, f.type)) = some (o, t) → ∃ y, DataW.trod enc Try.prog w base spare held n t ((List.drop o [c0, c1, c2, c3, c4, c5, c6, c7]).take (Try.prog.cellsOf t)) = some y := by
      intro i o t hf
      obtain ⟨f, hf, ho, ht⟩ := fld hf
      have h1 := hg i f hf
      rw [ho, ht, List.getElem?_eq_getElem (by have := (Array.getElem?_eq_some_iff.1 hf).1; omega)] at h1
      exact ⟨_, h1⟩
    have one : ∀ (i o : Nat) (c : Value), ((Try.prog.fieldsOf 74)[i]?).map (fun f => (f.offset, f.type)) = some (o, 3) → (List.drop o [c0, c1, c2, c3, c4, c5, c6, c7]).take 1 = [c] → ∃ z : Int, c = .int .i64 z := by
      intro i o c hf hd
      obtain ⟨y, hy⟩ := at_ i o 3 hf
      rw [cells3, hd] at hy
      obtain ⟨z, hz, _⟩ := DataW.trod_int Try.underlying3 hy
      injection hz with hz
      exact ⟨z, hz⟩
    obtain ⟨z0, rfl⟩ := one 0 0 c0 (by kernel_rfl) rfl
    obtain ⟨z1, rfl⟩ := one 1 1 c1 (by kernel_rfl) rfl
    obtain ⟨y, hy⟩ := at_ 2 2 44 (by kernel_rfl)
    rw [cells44] at hy
    obtain ⟨r, hr⟩ := read_req hy
    obtain ⟨y7, hy7⟩ := at_ 3 7 35 (by kernel_rfl)
    rw [cells35] at hy7
    obtain ⟨l, hl, hl2⟩ := read_bytes (c := c7) hy7
    have e : [c2, c3, c4, c5, c6] = reqc r := hr
    unfold reqc at e
    simp at e
    obtain ⟨rfl, rfl, rfl, rfl, rfl⟩ := e
    exact ⟨⟨z0, z1, r, l, c7⟩, rfl, hl, hl2⟩
theorem open_deeds {r : Reach} {b0 : Nat} {v : Value} {d : DataW H} {ps : List MemPlace} (hv : Value.okWide Try.prog w r b0 22 v) (h : DataW.Trod enc Try.prog w base spare held 22 v d ps) : ∃ ds, Deeds w v ds := by
  obtain ⟨A, len', cap', rfl⟩ := okWide_slice Try.underlying22 hv
  obtain ⟨fuel, hf⟩ := h
  rcases open_slice Try.underlying22 hf with ⟨h0, _⟩ | ⟨a, len, cap, m, n, D, Pl, hcs, hb, hl, hm, hmm, _, hi⟩
  · simp [Value.cells] at h0
    obtain ⟨rfl, rfl, rfl⟩ := h0
    exact ⟨[], .inl ⟨rfl, rfl⟩⟩
  · simp [Value.cells] at hcs
    obtain ⟨rfl, rfl, rfl⟩ := hcs
    have hle : len' ≤ m := by rw [hmm]; split <;> omega
    have key : ∀ i, i < len' → ∃ dd : Deed, (∀ j u, (dcells dd)[j]? = some u → w.cell? (a.add (i * 8 + j)) = some u) ∧ DeedOk w dd := by
      intro i hil
      obtain ⟨cs, hc, ht⟩ := hi i (by omega)
      obtain ⟨dd, rfl, hok⟩ := read_deed ht
      refine ⟨dd, fun j u hu => ?_, hok⟩
      rw [cells74] at hc
      obtain ⟨_, _, hat⟩ := World.cells?_some hc
      have hj : j < 8 := by
        rcases Nat.lt_or_ge j 8 with h | h
        · exact h
        · rw [List.getElem?_eq_none (by simpa [dcells] using h)] at hu; cases hu
      rw [← Go.Deep.add_add, hat j hj, hu]
    haveI : Inhabited Deed := ⟨zeroD⟩
    obtain ⟨V, hV⟩ := choose_lt (α := Deed) key
    refine ⟨(List.range len').map V, .inr ⟨a, cap', by simp, by simp; omega, fun i dd hd j u hu => ?_, fun dd hdd => ?_⟩⟩
    · rw [List.getElem?_map] at hd
      rcases Nat.lt_or_ge i len' with h | h
      · rw [List.getElem?_range h] at hd
        simp at hd
        subst hd
        exact (hV i h).1 j u hu
      · rw [List.getElem?_eq_none (by simpa using h)] at hd; cases hd
    · obtain ⟨i, hi, rfl⟩ := List.mem_map.1 hdd
      exact (hV i (by simpa using hi)).2
end
end Go.Proofs.Ytjlenocmfeggdaa
