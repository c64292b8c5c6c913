/- The walk of Copy's closure. -/
import Derived.Test.YtdiginkpclbmdaaPtrMap
namespace Go.Proofs.Ytdiginkpclbmdaa
open Go.RowKit
attribute [local go_sem] cell_alloc_some frozen_alloc_some
section
variable {w : World} {c m b : Nat} {M : List (Nat × Nat)}
theorem cp_none (w : World) (c : Nat) : Calls Try.prog 38 #[.pointer none, .pointer (some ⟨c, 0, none⟩)] w fun e w' => e = .returned (.pointer none) ∧ w = w' := by
  go_enter Try.func38, Try.ntmps38
  go_wp2
  go_ret
  exact ⟨rfl, rfl⟩
theorem cp_old (hc : w.cell? ⟨c, 0, none⟩ = some (.map (some m))) (hm : MapAt w m M) (hb : Plain w b) (hM : ∀ x ∈ M, Plain w x.1) {i nb : Nat} (hf : fM b M 0 = some (i, pt nb)) :
    Calls Try.prog 38 #[.pointer (some ⟨b, 0, none⟩), .pointer (some ⟨c, 0, none⟩)] w fun e w' => e = .returned (.pointer (some ⟨nb, 0, none⟩)) ∧ w = w' := by
  have hl := run_lookup_pt w m b M hm hb hM
  rw [hf] at hl
  unfold pt at hl
  simp only [Option.isSome_some] at hl
  clear hm hb hM hf
  go_enter Try.func38, Try.ntmps38
  go_wp2
  go_ret
  exact ⟨rfl, rfl⟩
theorem cp_new (hc : w.cell? ⟨c, 0, none⟩ = some (.map (some m))) (hm : MapAt w m M) {o : Op3} {r : Nat} (hb : Blk w b 72 (shc o r)) (hM : ∀ x ∈ M, Plain w x.1) (hf : fM b M 0 = none) :
    Calls Try.prog 38 #[.pointer (some ⟨b, 0, none⟩), .pointer (some ⟨c, 0, none⟩)] w fun e w' => e = .returned (.pointer (some ⟨w.heap.size, 0, none⟩)) ∧ Blk w' w.heap.size 72 (shc o r) ∧ MapAt w' m (M ++ [(b, w.heap.size)]) ∧ Keep (· = m) w w' ∧ w'.heap.size = w.heap.size + 1 := by
  have hp : Plain w b := ⟨_, _, hb⟩
  have hl := run_lookup_pt w m b M hm hp hM
  rw [hf] at hl
  unfold pt at hl
  simp only [Option.isSome_none] at hl
  have c0 := hb.cell_of (i := 0) rfl
  have c1 := hb.cell_of (i := 1) rfl
  have c2 := hb.cell_of (i := 2) rfl
  have c3 := hb.cell_of (i := 3) rfl
  have hmlt : m < w.heap.size := by obtain ⟨es, clock, he, _⟩ := hm; exact (Array.getElem?_eq_some_iff.1 he).1
  have hm2 : MapAt (w.alloc (.cells #[.int .u8 o.kind, .int .i64 o.ref, .int .i64 o.pos, .int .i64 r] 72)) m M := by
    obtain ⟨es, clock, he, hp⟩ := hm
    exact ⟨es, clock, (Below.heap_alloc w _ m hmlt).trans he, hp⟩
  have hpl : ∀ x, Plain w x → Plain (w.alloc (.cells #[.int .u8 o.kind, .int .i64 o.ref, .int .i64 o.pos, .int .i64 r] 72)) x := fun x ⟨cs, t, h⟩ => ⟨cs, t, (Below.heap_alloc w _ x (Array.getElem?_eq_some_iff.1 h).1).trans h⟩
  obtain ⟨w2, hu, hm3, hk, hs⟩ := run_update_pt (w.alloc (.cells #[.int .u8 o.kind, .int .i64 o.ref, .int .i64 o.pos, .int .i64 r] 72)) m b w.heap.size M hm2 (hpl b hp) (fun x hx => hpl x.1 (hM x hx)) hf
  unfold pt at hu
  have HB2 := Lib.hid ((Blk.new w 72 (shc o r)).keep hk (by omega))
  have HM3 := Lib.hid hm3
  have HK : Hid (Keep (· = m) w w2) := ((Keep.refl _ w).alloc _).trans hk
  have HS : Hid (w2.heap.size = w.heap.size + 1) := by rw [hs]; simp [Hid]
  clear hm hb hM hf hp hm2 hpl hm3 hk hs hmlt
  go_enter Try.func38, Try.ntmps38
  go_wp2
  go_ret
  exact ⟨rfl, HB2.out, HM3.out, HK.out, HS.out⟩
end
end Go.Proofs.Ytdiginkpclbmdaa
