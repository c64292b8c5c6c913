/- The walk of the document's Copy. -/
import Derived.Test.YtdiginkpclbmdaaCopyFn
import Derived.Deep.WholeRow
namespace Go.Proofs.Ytdiginkpclbmdaa
open Go.RowKit
attribute [local go_sem] cell_alloc_some frozen_alloc_some
set_option maxRecDepth 100000 in
theorem rcopy_any {w : World} {R : Nat} {S : St} {v : Value} {F : Nat → Prop} (h : RepR w R S v F) :
    Calls Try.prog 25 #[.pointer (some ⟨R, 0, none⟩)] w fun e w' => e = .returned (.pointer (some ⟨w.heap.size, 0, none⟩)) ∧ RepR w' w.heap.size S v (fun b => b = w.heap.size ∨ v.ownBlock = some b) ∧ Keep none_ w w' ∧ w'.heap.size = w.heap.size + 1 := by
  obtain ⟨cs, hcs⟩ : ∃ cs, cs = (row 55 (rcell S v)).toArray := ⟨_, rfl⟩
  have ht : w.heap[R]? = some (.cells cs 84 (0, 0)) := by rw [hcs]; exact h.tab
  have hsz : cs.size = 55 := by rw [hcs]; simp [row]
  have HN : Hid (RepR (w.alloc (.cells cs 84)) w.heap.size S v (fun b => b = w.heap.size ∨ v.ownBlock = some b)) :=
    ⟨h.inv, by rw [hcs]; exact Blk.new w 84 _, h.all.alloc _, .inl rfl, fun g hg => .inr hg⟩
  have hi84 : (Try.prog.info? 84).map (·.size) = some 55 := by kernel_rfl
  have hu84 : Try.prog.underlying 84 = some (.struct (Try.prog.fieldsOf 84)) := by kernel_rfl
  have h1 : cs.all (·.oneCell') = true := by
    rw [hcs]
    have hv : v.oneCell' = true := by rcases h.all.2 with ⟨rfl, _⟩ | ⟨g, cap, cur, rfl, _⟩ <;> rfl
    simp only [List.all_toArray, row, List.all_map, List.all_eq_true]
    intro i _
    show (rcell S v i).oneCell' = true
    unfold rcell
    split
    · rfl
    · split
      · rfl
      · exact hv
  have hst := run_storeCells_new (P := Try.prog) w 84 #[.bool false, .bool false, .bool false, .bool false, .bool false, .bool false, .int .i64 0, .int .i64 0, .int .i64 0, .int .i64 0, .int .i64 0, .int .i64 0, .int .i64 0, .int .i64 0, .int .i64 0, .int .i64 0, .int .i64 0, .int .i64 0, .int .i64 0, .int .i64 0, .int .i64 0, .int .i64 0, .int .i64 0, .int .i64 0, .int .i64 0, .int .i64 0, .int .i64 0, .int .i64 0, .int .i64 0, .int .i64 0, .int .i64 0, .int .i64 0, .int .i64 0, .int .i64 0, .int .i64 0, .int .i64 0, .int .i64 0, .int .i64 0, .int .i64 0, .int .i64 0, .int .i64 0, .int .i64 0, .int .i64 0, .int .i64 0, .int .i64 0, .int .i64 0, .int .i64 0, .int .i64 0, .int .i64 0, .int .i64 0, .int .i64 0, .int .i64 0, .int .i64 0, .int .i64 0, .slice none 0 0] cs (by rw [hi84, hsz]) (by rw [hsz]; rfl) h1
  have HT := Lib.hid ht
  have HS := Lib.hid hsz
  have HI := Lib.hid hi84
  have HU := Lib.hid hu84
  have H1 := Lib.hid h1
  clear ht h hcs hi84 hu84 h1
  go_enter Try.func25, Try.ntmps25
  go_wp2_with (refine wpList_load_row rfl _ _ rfl R rfl 84 cs (0, 0) _ HT.out HU.out rfl (by rw [HI.out, HS.out]) ?_)
  go_ret
  exact ⟨rfl, HN.out, (Keep.refl _ w).alloc _, by simp⟩
end Go.Proofs.Ytdiginkpclbmdaa
