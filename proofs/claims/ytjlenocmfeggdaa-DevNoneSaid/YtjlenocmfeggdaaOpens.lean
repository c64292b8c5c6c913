/- The laws' other arguments, opened: a byte, a request, a deed. -/
import Derived.Test.YtjlenocmfeggdaaArgs
namespace Go.Proofs.Ytjlenocmfeggdaa
open Go.ChangeShapes Go.WideShapes Go.ChangeAt Go.RowKit Go.Deep
set_option maxRecDepth 100000
section
variable {H : Type} {enc : TypeId × Value → H} {w : World} {base : Nat} {spare : Nat → Bool} {held : Bool} {r : Reach} {b0 : Nat}
theorem okWide_struct_ {t : TypeId} {v : Value} {fs : Array Field} (ht : Try.prog.underlying t = some (.struct fs)) (h : Value.okWide Try.prog w r b0 t v) : ∃ cs, v = .agg cs ∧ cs.size = Try.prog.cellsOf t := by
  simp only [Value.okWide, ht] at h
  obtain ⟨cs, h1, h2, _⟩ := h
  exact ⟨cs, h1, h2⟩
theorem open_byte {v : Value} {d : DataW H} {ps : List MemPlace} (hv : Value.okWide Try.prog w r b0 5 v) (h : DataW.Trod enc Try.prog w base spare held 5 v d ps) : ∃ c : UInt8, v = byv c ∧ True := by
  obtain ⟨z, rfl, _⟩ := okWide_int Try.underlying5 hv
  obtain ⟨fuel, hf⟩ := h
  obtain ⟨z', hz, _, hwf⟩ := DataW.trod_int Try.underlying5 hf
  have hz : z = z' := by simpa [Value.cells] using hz
  subst hz
  have hb : 0 ≤ z ∧ z < 256 := by
    unfold Lit.wf at hwf
    simp [IntKind.min, IntKind.max, IntKind.bits, IntKind.signed] at hwf
    omega
  refine ⟨UInt8.ofNat z.toNat, ?_, trivial⟩
  have : ((UInt8.ofNat z.toNat).toNat : Int) = z := by
    rw [UInt8.toNat_ofNat', Nat.mod_eq_of_lt (by omega)]; omega
  unfold byv
  rw [this]
theorem open_req {v : Value} {d : DataW H} {ps : List MemPlace} (hv : Value.okWide Try.prog w r b0 44 v) (h : DataW.Trod enc Try.prog w base spare held 44 v d ps) : ∃ q : Req, v = .agg (reqc q).toArray := by
  obtain ⟨cs, rfl, _⟩ := okWide_struct_ fields44 hv
  obtain ⟨fuel, hf⟩ := h
  obtain ⟨q, hq⟩ := read_req hf
  have hq : cs.toList = reqc q := hq
  exact ⟨q, by rw [← hq]⟩
theorem open_deed {v : Value} {d : DataW H} {ps : List MemPlace} (hv : Value.okWide Try.prog w r b0 74 v) (h : DataW.Trod enc Try.prog w base spare held 74 v d ps) : ∃ q : Deed, v = .agg (dcells q).toArray ∧ DeedOk w q := by
  obtain ⟨cs, rfl, _⟩ := okWide_struct_ fields74 hv
  obtain ⟨fuel, hf⟩ := h
  obtain ⟨q, hq, hok⟩ := read_deed hf
  have hq : cs.toList = dcells q := hq
  exact ⟨q, by rw [← hq], hok⟩
end
end Go.Proofs.Ytjlenocmfeggdaa
