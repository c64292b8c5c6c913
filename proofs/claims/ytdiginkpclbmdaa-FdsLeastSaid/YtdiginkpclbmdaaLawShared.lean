/- FdsShared: whatever the deeds, the four bytes and the number, the law returns true, and nothing that was there has turned. No condition. -/
import Derived.Test.YtdiginkpclbmdaaLawPlays
import Derived.Test.YtdiginkpclbmdaaSharedWalk
namespace Go.Proofs.Ytdiginkpclbmdaa
open Go.ChangeShapes Go.WideShapes Go.ChangeAt Go.RowKit
theorem cells43 : Try.prog.cellsOf 43 = 4 := by kernel_rfl
theorem cells5 : Try.prog.cellsOf 5 = 1 := by kernel_rfl
theorem wf_u8 {n : Int} (h : (Lit.int .u8 n).wf = true) : 0 ≤ n ∧ n < 256 := by
  simp [Lit.wf, IntKind.min, IntKind.max, IntKind.bits, IntKind.signed] at h
  omega
theorem okWide_array {P : Program} {w : World} {r : Reach} {base : Nat} {t : TypeId} {v : Value} {n : Nat} {e : TypeId} (ht : P.underlying t = some (.array n e)) (h : Value.okWide P w r base t v) : ∃ cs, v = .agg cs ∧ cs.size = P.cellsOf t := by
  simp only [Value.okWide, ht] at h
  obtain ⟨cs, h1, h2, _⟩ := h
  exact ⟨cs, h1, h2⟩
theorem open_bytes4 {H : Type} {enc : TypeId × Value → H} {w : World} {base : Nat} {spare : Nat → Bool} {held : Bool} {r : Reach} {b0 : Nat} {v : Value} {d : DataW H} {ps : List MemPlace}
    (hv : Value.okWide Try.prog w r b0 43 v) (h : DataW.Trod enc Try.prog w base spare held 43 v d ps) :
    ∃ z0 z1 z2 z3 : Int, v = .agg #[.int .u8 z0, .int .u8 z1, .int .u8 z2, .int .u8 z3] ∧ (0 ≤ z0 ∧ z0 < 256) ∧ (0 ≤ z1 ∧ z1 < 256) ∧ (0 ≤ z2 ∧ z2 < 256) ∧ (0 ≤ z3 ∧ z3 < 256) := by
  obtain ⟨cs, rfl, hsz⟩ := okWide_array Try.underlying43 hv
  rw [cells43] at hsz
  obtain ⟨l⟩ := cs
  match l, hsz with
  | [c0, c1, c2, c3], _ =>
    obtain ⟨fuel, hf⟩ := h
    obtain ⟨xs, m, _, _, _, hlen, hg⟩ := DataW.trod_array Try.underlying43 hf
    rw [cells5] at hg
    have one : ∀ (i : Nat) (c : Value), i < 4 → (List.drop (i * 1) [c0, c1, c2, c3]).take 1 = [c] → ∃ z : Int, c = .int .u8 z ∧ 0 ≤ z ∧ z < 256 := by
      intro i c hi hc
      have h1 := hg i hi
      simp only [Value.cells] at h1
      rw [hc, List.getElem?_eq_getElem (by omega)] at h1
      obtain ⟨z, hz, _, hw⟩ := DataW.trod_int Try.underlying5 h1
      injection hz with hz
      exact ⟨z, hz, wf_u8 hw⟩
    obtain ⟨z0, rfl, h0⟩ := one 0 c0 (by omega) rfl
    obtain ⟨z1, rfl, h1⟩ := one 1 c1 (by omega) rfl
    obtain ⟨z2, rfl, h2⟩ := one 2 c2 (by omega) rfl
    obtain ⟨z3, rfl, h3⟩ := one 3 c3 (by omega) rfl
    exact ⟨z0, z1, z2, z3, rfl, h0, h1, h2, h3⟩
set_option maxRecDepth 100000 in
theorem fdsShared_lifted (os : Os) (started : os.Started) (H : Type) (enc : TypeId × Value → H) :
    ReturnsInHanded {} Try.checked os 4 .any (Rows.fdsSharedSpec.pre6 enc Try.prog Try.f4 Rows.fdsSharedRow.domain false) (Rows.fdsSharedSpec.post enc Try.prog Try.f4 false true false false) := by
  refine returnsInHanded_of_change (C := Try.checked) Try.own started (by kernel_rfl) Try.func4
    (ChangeSpec.witness6 (enc := enc) (C := Try.checked) false ⟨#[], #[.slice none 0 0, .agg #[.int .u8 0, .int .u8 0, .int .u8 0, .int .u8 0], .int .i64 0], []⟩ 8 (by kernel_rfl) (by kernel_rfl) (by kernel_rfl) (by kernel_rfl)) ?_
  intro W base args ds gs before hval0 hW hcnd _
  have hval : ∀ (j : Nat) t v, Try.f4.params[j]? = some t → args[j]? = some v → Value.okWide Try.prog W .any base t v := hval0
  have hW' := hW
  obtain ⟨p, q, hA0, hV, rfl, hfz, hnd⟩ := hW
  have hA : DataW.TrodAll enc Try.prog W 0 (fun _ => true) true Try.f4.params.toList args.toList ds p := hA0
  rw [Try.params4] at hA hval
  obtain ⟨v0, v1, v2, d0, d1, d2, p0, p1, p2, rfl, rfl, rfl, h0, h1, h2⟩ := trodAll_three hA
  obtain ⟨rfl, rfl⟩ := trodVars_none hV
  have k0 := h0
  have k1 := h1
  have lt0 : ∀ x ∈ p0, x.block < W.heap.size := by obtain ⟨m, hm⟩ := k0; exact DataW.trod_lt m _ _ _ hm
  have lt1 : ∀ x ∈ p1, x.block < W.heap.size := by obtain ⟨m, hm⟩ := k1; exact DataW.trod_lt m _ _ _ hm
  obtain ⟨dl, hd⟩ := open_deeds (hval 0 22 v0 rfl rfl) h0
  obtain ⟨z0, z1, z2, z3, rfl, b0, b1, b2, b3⟩ := open_bytes4 (hval 1 43 v1 rfl rfl) h1
  obtain ⟨pos, rfl, rfl, rfl, wp⟩ := open_int Try.underlying3 (hval 2 3 v2 rfl rfl) h2
  clear hA0 hval0
  refine (shared_all W v0 dl hd z0 z1 z2 z3 pos b0 b1 b2 b3).mono fun e W' ⟨he, hk⟩ => ?_
  have bel := below_of_keep hk
  subst he
  exact ⟨_, rfl, _, _, _, [], _, [], hW', trodAll_mk1 (shut_bool Try.underlying4 _), (trodAll_cons_mk (Below.trod Try.laidOut (by kernel_rfl) (of_decide_eq_true (by kernel_rfl)) k0 bel lt0) (trodAll_cons_mk (Below.trod Try.laidOut (by kernel_rfl) (of_decide_eq_true (by kernel_rfl)) k1 bel lt1) (trodAll_cons_mk (shut_int Try.underlying3 wp) trodAll_mk0))), rfl, bel.frame _, fun h => by cases h⟩
theorem fdsShared_holds : Rows.FdsSharedSaid :=
  OpenClaim.holds_of_wide 4 Try.f4 rfl rfl rfl rfl rfl rfl rfl ⟨rfl, rfl, rfl, rfl, rfl⟩ rfl rfl rfl rfl rfl (by kernel_rfl) Try.func4 (by kernel_rfl)
    (of_decide_eq_true (by kernel_rfl)) (by unfold Func.isWrapper; first | (rw [if_pos (by decide +kernel)]; kernel_rfl) | (rw [if_neg (by decide +kernel)]; exact ⟨rfl, rfl⟩))
    (fun os started H enc _ => fdsShared_lifted os started H enc)
#print axioms fdsShared_holds
end Go.Proofs.Ytdiginkpclbmdaa
