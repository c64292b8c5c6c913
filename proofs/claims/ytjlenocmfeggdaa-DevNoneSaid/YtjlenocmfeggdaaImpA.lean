/- The walks of at, Clone of bytes, SetByte, Frame, Byte. -/
import Derived.Test.YtjlenocmfeggdaaReps
import Derived.BigQuiet
import Derived.WalkSpells
import Derived.Deep.QuietTactic
namespace Go.Proofs.Ytjlenocmfeggdaa
open Go.RowKit
attribute [local go_sem] cell_alloc_some frozen_alloc_some
section
variable {w w' : World} {D M : Nat} {S : St} {v : Value} {sb fb : Nat} {T : Tl} {F : Nat → Prop}
theorem RepT.cellM (h : RepT w D M S v sb fb T F) : w.cell? ⟨M, 0, none⟩ = some (.slice (some ⟨fb, 0, none⟩) S.nf T.fc) := h.mem.cell_of rfl
set_option maxRecDepth 100000 in
set_option maxHeartbeats 400000 in
theorem at_ok (h : RepT w D M S v sb fb T F) (i off many : Nat) (hi : i < S.nf) (hm : off + many ≤ 32) (h0 : 0 < many) :
    Calls Try.prog 37 #[.pointer (some ⟨M, 0, none⟩), .int .i64 i, .int .i64 off, .int .i64 many] w fun e w' => e = .returned (.tuple #[.slice (some ⟨fb, i * 32 + off, none⟩) many many, .int .i64 0]) ∧ w = w' := by
  have hc := h.cellM
  have hn := h.inv.nf1
  have i0 : (0 : Int) ≤ (i : Int) := by omega
  have i1 : (i : Int) < (S.nf : Int) := by omega
  have i2 : (0 : Int) ≤ (off : Int) := by omega
  have i3 : (off : Int) ≤ 32 - (many : Int) := by omega
  have i4 : (many : Int) ≤ 32 := by omega
  have i6 : (off : Int) + (many : Int) ≤ 32 := by omega
  have i7 : (0 : Int) ≤ (off : Int) + (many : Int) := by omega
  have i8 : (off : Int) ≤ (off : Int) + (many : Int) := by omega
  have i5 : (0 : Int) < (many : Int) := by omega
  have HE : Hid (off + many - off = many) := by unfold Hid; omega
  clear h
  generalize S.nf = nf at *
  go_enter Try.func37, Try.ntmps37
  go_wp2
  go_ret2
  exact ⟨by rw [HE.out]; rfl, rfl⟩
set_option maxRecDepth 100000 in
set_option maxHeartbeats 400000 in
theorem at_err (h : RepT w D M S v sb fb T F) (i off : Int) (many : Nat) (hm : many ≤ 32) (he : i < 0 ∨ (S.nf : Int) ≤ i ∨ off < 0 ∨ 32 - (many : Int) < off) :
    Calls Try.prog 37 #[.pointer (some ⟨M, 0, none⟩), .int .i64 i, .int .i64 off, .int .i64 many] w fun e w' => e = .returned (.tuple #[.slice none 0 0, .int .i64 2]) ∧ w = w' := by
  have hc := h.cellM
  have hn := h.inv.nf1
  have i4 : (many : Int) ≤ 32 := by omega
  have HN := Lib.hid he
  clear h he
  generalize S.nf = nf at *
  go_enter Try.func37, Try.ntmps37
  go_wp2
  all_goals first
    | (exfalso; have := HN.out; omega)
    | (go_ret2; exact ⟨rfl, rfl⟩)
theorem at_nil (w : World) (i off : Int) (many : Nat) :
    Calls Try.prog 37 #[.pointer none, .int .i64 i, .int .i64 off, .int .i64 many] w fun e w' => e = .returned (.tuple #[.slice none 0 0, .int .i64 1]) ∧ w = w' := by
  go_enter Try.func37, Try.ntmps37
  go_wp2
  go_ret2
  exact ⟨rfl, rfl⟩
theorem info5 : (Try.prog.info? 5).map (fun i => (i.zero, i.size, i.bytes)) = some (some (.int .u8 0), 1, 1) := by kernel_rfl
set_option maxRecDepth 100000 in
theorem clone_nil (w : World) : Calls Try.prog 38 #[.slice none 0 0] w fun e w' => e = .returned (.slice none 0 0) ∧ w = w' := by
  have he := fun a n c n' c' w => Lib.run_eql_slice_nil (P := Try.prog) w 35 5 a n c n' c' Try.underlying35
  go_enter Try.func38, Try.ntmps38
  go_wp2
  go_ret
  exact ⟨rfl, rfl⟩
set_option maxRecDepth 100000 in
theorem clone_some (w : World) (ad : Addr) (n cap : Nat) (l : List UInt8) (hl : (l.map byv).length = n * 1) (hc : ∀ j u, (l.map byv)[j]? = some u → w.cell? (ad.add j) = some u) (hn : n ≤ 1000) :
    Calls Try.prog 38 #[.slice (some ad) n cap] w fun e w' => ∃ v, e = .returned v ∧ w'.ownsRow w.heap.size 5 1 v n (l.map byv) ∧ Keep none_ w w' := by
  obtain ⟨i0, hi, hz0, hz1, hz2⟩ := info_parts info5
  have HH : Hid (Holds (w.alloc (.cells #[] 5)) (some ad) n 1 (l.map byv)) := .inr ⟨ad, rfl, hl, fun j u hu => by
    have h1 := hc j u hu
    exact (World.cell?_alloc_lt _ _ _ (World.block_lt_of_cell? w _ h1)).trans h1⟩
  have HO : Hid ((w.alloc (.cells #[] 5)).ownsRow w.heap.size 5 1 (.slice (some ⟨w.heap.size, 0, none⟩) 0 0) 0 []) := World.ownsRow_made (e := 5) (size := 1) (base := w.heap.size) w #[] 0 (Nat.le_refl _) (by decide) rfl
  have HB := Lib.hid (byv_one l)
  obtain ⟨L, hL⟩ : ∃ L, L = l.map byv := ⟨_, rfl⟩
  rw [← hL] at HH HB ⊢
  clear hc hl hL
  have he := fun a n c n' c' w => Lib.run_eql_slice_nil (P := Try.prog) w 35 5 a n c n' c' Try.underlying35
  go_enter Try.func38, Try.ntmps38
  go_wp2_with (at_builtin; refine wpList_append_gen rfl _ _ 35 rfl w.heap.size 5 i0 (.int .u8 0) 1 1 Try.underlying35 hi hz0 hz1 hz2 rfl (by decide) (.slice (some ⟨w.heap.size, 0, none⟩) 0 0) 0 [] rfl HO.out (some ad) n cap L rfl HH.out HB.out (by unfold maxLen; omega) (by omega) (by simp) ?_; intro v' w' hown hg hob)
  have HW := Lib.hid hown
  have HK : Hid (Keep none_ w w') := ((Keep.refl none_ w).alloc _).thenF (Keep.of_grown hg) (fun x hx => .inr (by injection hx with hx; exact Nat.le_of_eq hx))
  clear hown hg hob
  go_wp2
  go_ret
  exact ⟨v', rfl, by have := HW.out; rw [Nat.zero_add, List.nil_append] at this; exact this, HK.out⟩
end
end Go.Proofs.Ytjlenocmfeggdaa
