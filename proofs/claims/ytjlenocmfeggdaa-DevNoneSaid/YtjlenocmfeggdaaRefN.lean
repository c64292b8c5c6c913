/- The document's disk: Fork. -/
import Derived.Test.YtjlenocmfeggdaaRefG
import Derived.Deep.RegionHeld3
namespace Go.Proofs.Ytjlenocmfeggdaa
open Go.RowKit
attribute [local go_sem] cell_alloc_some frozen_alloc_some
section
variable {w w' : World} {R M : Nat} {S : St} {v sv bv : Value} {iv : Nat → Value} {W F : Nat → Prop}
theorem RepR.rows_one (h : RepR w R M S v sv bv iv W F) : ∀ u ∈ row S.ns iv, u.oneCell' = true := by
  intro u hu
  unfold row at hu
  obtain ⟨k, hk, rfl⟩ := List.mem_map.1 hu
  obtain ⟨g, c, hv, _⟩ := h.rowForm (k := k) (by simpa using hk)
  rw [hv]; rfl
set_option maxRecDepth 100000 in
set_option maxHeartbeats 2000000 in
theorem rdiskfork_any (h : RepR w R M S v sv bv iv W F) :
    Calls Try.prog 32 #[.pointer (some ⟨R, 0, none⟩)] w fun e w' => ∃ R' v' sv', e = .returned (.pointer (some ⟨R', 0, none⟩)) ∧ Blk w' R' 118 [sv', v', .int .u32 S.last] ∧ w'.ownsRow w.heap.size 35 1 sv' S.ns (row S.ns iv) ∧ w'.ownsRow w.heap.size 44 5 v' S.q.length (flatQ S.q) ∧ w.heap.size ≤ R' ∧ Keep none_ w w' := by
  obtain ⟨i0, hi0, hz0, hz1, hz2⟩ := info_parts info35
  obtain ⟨gs, cs, rfl, hcs⟩ := h.rlenS
  have HB := Lib.hid h.rows_one
  have HHO : Hid (∀ {V : World}, Keep none_ w V → Holds V (some ⟨gs, 0, none⟩) S.ns 1 (row S.ns iv)) := fun hk => (Holds.of_own h.secs).keep hk (fun _ _ => id)
  have HW : Hid (∀ {V : World}, Keep none_ w V → Calls Try.prog 57 #[.pointer (some ⟨R, 0, none⟩)] V fun e w' => ∃ u, e = .returned u ∧ w'.ownsRow V.heap.size 44 5 u S.q.length (flatQ S.q) ∧ Keep none_ V w') := fun hk => rwaiting_any (h.keep0 hk)
  have c0 := h.disk.cell_of (i := 0) rfl
  have c2 := h.disk.cell_of (i := 2) rfl
  have hns := h.inv.ns1
  have hns0 := h.inv.ns0
  clear h
  generalize flatQ S.q = fq at *
  generalize S.q.length = nq at *
  generalize row S.ns iv = L at *
  generalize S.ns = ns at *
  generalize S.last = last at *
  go_enter Try.func32, Try.ntmps32
  go_wp2_with fail
  have HK0 : Hid (Keep none_ w w.drew) := (Keep.refl _ w).drew
  have HKA : Hid (Keep none_ w (w.alloc (.cells #[] 35)).drew) := ((Keep.refl _ w).alloc _).drew
  have HOA : Hid ((w.alloc (.cells #[] 35)).drew.ownsRow w.heap.size 35 1 (.slice (some ⟨w.heap.size, 0, none⟩) 0 0) 0 []) := World.ownsRow.drew (World.ownsRow_made (e := 35) (size := 1) (base := w.heap.size) w #[] 0 (Nat.le_refl _) (by decide) rfl)
  have b0 := HK0.out.cellS c0 id
  have b2 := HK0.out.cellS c2 id
  have a0 := HKA.out.cellS c0 id
  have a2 := HKA.out.cellS c2 id
  go_region_held3 (fun V => V.cell? ⟨R, 0, none⟩ = some (.slice (some ⟨gs, 0, none⟩) ns cs) ∧ V.cell? ⟨R, 2, none⟩ = some (.int .u32 last))
    (first | exact ⟨b0, b2⟩ | exact ⟨a0, a2⟩ | exact ⟨t0, t2⟩ | exact ⟨r0, r2⟩ | go_keep)
    (first
      | (refine step_append_gen (by rfl) _ _ 116 (by rfl) w.heap.size 35 i0 (.slice none 0 0) 1 24 Try.underlying116 hi0 hz0 hz1 hz2 rfl (by decide) (.slice (some ⟨w.heap.size, 0, none⟩) 0 0) 0 [] (by rfl) HOA.out (some ⟨gs, 0, none⟩) ns cs L (by rfl) (HHO.out HKA.out) HB.out (by unfold maxLen; omega) (by omega) HKA.out.size ?_; intro v2 W2 hown hg hob; obtain ⟨g2, cap2, rfl, hcc1, hcc2⟩ := hown.form (by omega); have hkg : Keep none_ w W2 := HKA.out.thenF (Keep.of_grown hg) (fun x hx => .inr (by injection hx with hx; exact Nat.le_of_eq hx)); have t0 := hkg.cellS c0 id; have t2 := hkg.cellS c2 id; have HO2 := Lib.hid hown; have HK2 := Lib.hid hkg; clear hown hg hob hkg)
      | (go_at_call 57; refine Calls.mono (by exact HW.out HK2.out) ?_; rintro e W3 ⟨u, rfl, ho, hk⟩; have r0 := hk.cellS t0 id; have r2 := hk.cellS t2 id; have HO3 := Lib.hid (ownsRow_keep HO2.out hk (fun _ _ => id)); have HQ3 := Lib.hid (ownsRow_base ho HK2.out.size); have HK3 := Lib.hid (HK2.out.trans hk); obtain ⟨Aq, cq, rfl, _, _⟩ := own_form ho; clear ho hk))
  have HO4 : Hid (World.ownsRow (W3.alloc (.cells #[.slice (some ⟨g2, 0, none⟩) ns cap2, .slice Aq nq cq, .int .u32 last] 118)) w.heap.size 35 1 (.slice (some ⟨g2, 0, none⟩) ns cap2) ns L) := by have := HO3.out.alloc (.cells #[.slice (some ⟨g2, 0, none⟩) ns cap2, .slice Aq nq cq, .int .u32 last] 118); rw [Nat.zero_add, List.nil_append] at this; exact this
  have HQ4 := Lib.hid (HQ3.out.alloc (.cells #[.slice (some ⟨g2, 0, none⟩) ns cap2, .slice Aq nq cq, .int .u32 last] 118))
  have HB4 : Hid (Blk (W3.alloc (.cells #[.slice (some ⟨g2, 0, none⟩) ns cap2, .slice Aq nq cq, .int .u32 last] 118)) W3.heap.size 118 [.slice (some ⟨g2, 0, none⟩) ns cap2, .slice Aq nq cq, .int .u32 last]) := Blk.new W3 118 _
  clear r0 r2 t0 t2 a0 a2 b0 b2 HO2 HQ3
  go_wp2
  go_ret
  exact ⟨_, _, _, rfl, HB4.out, HO4.out, HQ4.out, HK3.out.size, HK3.out.trans ((Keep.refl _ W3).alloc _)⟩
end
end Go.Proofs.Ytjlenocmfeggdaa
