/- The walk of the document's Move. -/
import Derived.Test.YtdiginkpclbmdaaRefD
namespace Go.Proofs.Ytdiginkpclbmdaa
open Go.RowKit
attribute [local go_sem] cell_alloc_some frozen_alloc_some
theorem ownsRow_set {w : World} {base e size n g cap i : Nat} {xs : List Value} {u : Value} (h : w.ownsRow base e size (.slice (some ⟨g, 0, none⟩) n cap) n xs) :
    (w.setCell ⟨g, i, none⟩ u).ownsRow base e size (.slice (some ⟨g, 0, none⟩) n cap) n (xs.set i u) := by
  obtain ⟨h1, h2⟩ := h
  refine ⟨by rw [List.length_set]; exact h1, ?_⟩
  rcases h2 with ⟨h2, _⟩ | ⟨g', cap', cur, hv, hg, hh, hnc, hm, hs, hx⟩
  · cases h2
  · have e1 : g' = g ∧ cap' = cap := by simp at hv; exact ⟨hv.1.symm, hv.2.symm⟩
    obtain ⟨rfl, rfl⟩ := e1
    refine .inr ⟨g', cap', cur.setIfInBounds i u, rfl, hg, ?_, hnc, hm, by simpa using hs, ?_⟩
    · simp [World.setCell, Array.getElem?_modify, hh]
    · rw [← hx, Array.toList_setIfInBounds, List.take_set]
theorem ownsRow_frozen {w : World} {base e size n g cap i : Nat} {xs : List Value} (h : w.ownsRow base e size (.slice (some ⟨g, 0, none⟩) n cap) n xs) : w.frozen? ⟨g, i, none⟩ = false := by
  rcases h.2 with ⟨h2, _⟩ | ⟨g', cap', cur, hv, hg, hh, _⟩
  · cases h2
  · have e1 : g' = g := by simp at hv; exact hv.1.symm
    subst e1
    simp [World.frozen?, hh]
theorem ownsRow_cell {w : World} {base e size n g cap i : Nat} {xs : List Value} {u : Value} (h : w.ownsRow base e size (.slice (some ⟨g, 0, none⟩) n cap) n xs) (hu : xs[i]? = some u) : w.cell? ⟨g, i, none⟩ = some u := by
  have := h.cells (g := g) rfl i u hu
  rw [show (⟨g, i, none⟩ : Addr) = (⟨g, 0, none⟩ : Addr).add i by unfold Addr.add; split <;> simp_all]
  exact this
theorem flat_set : ∀ (l : List Op3) (m : Nat) (o : Op3) (pos : Int), l[m]? = some o → flat (l.set m { o with pos := pos }) = (flat l).set (m * 3 + 2) (.int .i64 pos)
  | [], m, o, pos, h => by simp at h
  | x :: l, 0, o, pos, h => by simp at h; subst h; rfl
  | x :: l, m + 1, o, pos, h => by
    have := flat_set l m o pos (by simpa using h)
    have e : ∀ (y : Op3) (l : List Op3), flat (y :: l) = opc y ++ flat l := fun y l => by simp [flat]
    rw [List.set_cons_succ, e, e, this, show (m + 1) * 3 + 2 = 3 + (m * 3 + 2) by omega, List.set_append_right _ _ (by simp [opc])]
    simp [opc]
theorem flat_one (l : List Op3) : ∀ u ∈ flat l, u.oneCell' = true := by
  intro u hu
  unfold flat at hu
  rw [List.mem_flatMap] at hu
  obtain ⟨o, _, ho⟩ := hu
  simp [opc] at ho
  rcases ho with rfl | rfl | rfl <;> rfl
section
variable {w w' : World} {R : Nat} {S : St} {v : Value} {F : Nat → Prop}
/-- all that there ever was lies elsewhere -/
theorem RepR.swap (h : RepR w R S v F) {S' : St} {v' : Value} (hi : S'.Inv) (hhas : S'.has = S.has) (hfd : S'.fd = S.fd) (ho : w.ownsRow 0 30 3 v' S'.all.length (flat S'.all)) :
    RepR (w.setCell ⟨R, 54, none⟩ v') R S' v' (fun b => F b ∨ v'.ownBlock = some b) := by
  refine ⟨hi, ?_, ownsRow_keep' ho (Keep.setCell (S := (· = R)) (Keep.refl _ w) (.inl rfl) _) (fun g hg e => own_ne ho h.tab (by decide) (by rw [hg, e])), .inl h.footR, fun g hg => .inr hg⟩
  have := h.tab.set_ 54 v'
  rw [row_set] at this
  have e : row 55 (rcell S' v') = row 55 (fun j => if j = 54 then v' else rcell S v j) := by
    refine row_congr fun j hj => ?_
    unfold rcell
    rw [hhas, hfd]
    by_cases ej : j = 54
    · rw [if_neg (by omega), if_neg (by omega), if_pos ej]
    · rw [if_neg ej]
      by_cases h1 : j < 6
      · rw [if_pos h1, if_pos h1]
      · rw [if_neg h1, if_neg h1, if_pos (by omega), if_pos (by omega)]
  rw [e]; exact this
theorem ownsRow_zero {w : World} {base e size n : Nat} {v : Value} {xs : List Value} (h : w.ownsRow base e size v n xs) : w.ownsRow 0 e size v n xs := by
  refine ⟨h.1, ?_⟩
  rcases h.2 with h2 | ⟨g, cap, cur, hv, hg, r⟩
  · exact .inl h2
  · exact .inr ⟨g, cap, cur, hv, Nat.zero_le _, r⟩
set_option maxHeartbeats 1000000 in
theorem rmove_any (h : RepR w R S v F) (hb : S.all.length ≤ 1000) (p k pos : Int) :
    Calls Try.prog 46 #[.pointer (some ⟨R, 0, none⟩), .int .i64 p, .int .i64 k, .int .i64 pos] w fun e w' => e = .returned (.int .i64 (atE S p k)) ∧ RR w' R (moveS S p k pos) (ext F w w') ∧ Keep (· = R) w w' := by
  have H1 := rat_any h p k
  by_cases he : atE S p k = 0
  · obtain ⟨q, j, rfl, rfl, hq, hj, hh, hf⟩ := at_ok_cases S p k he
    have hS : moveS S q j pos = S.move q j pos := by unfold moveS; rw [if_pos he]; rfl
    rw [hS, he]
    rw [he] at H1
    replace H1 := Lib.hid H1
    obtain ⟨m, hm⟩ : ∃ m, S.fd q j = m + 1 := ⟨S.fd q j - 1, by omega⟩
    have hle := h.inv.le q j hq hj
    have hc := h.cellF hq hj
    have ha := h.cellA
    have hz := h.tab.frozen 54
    obtain ⟨g, cap, rfl, _⟩ := h.cellO (m := m) (by omega)
    rw [hm] at hc
    have HFD := Lib.hid hm
    obtain ⟨i0, hi, hz0, hz1, hz2⟩ := info_parts info30
    have h5 : (q : Int) < 6 := by omega
    have h6 : (j : Int) < 8 := by omega
    have h7 : (m : Int) < (S.all.length : Int) := by omega
    have hmove : S.move q j pos = { S with all := S.all.set m { S.what (m + 1) with pos := pos } } := by unfold St.move; rw [hm]; rfl
    have HM := Lib.hid hmove; have HINV := Lib.hid (h.inv.move q j pos)
    have HG := Lib.hid (what_get (S := S) (m := m) (by omega))
    have HH := Lib.hid h
    have HL : Hid (S.all.length = S.all.length) := Lib.hid rfl
    have hlt := h.tab.lt
    clear h hh hf he hm hle hmove hS
    generalize hlen : S.all.length = len at *
    have HLEN := Lib.hid hlen; clear hlen
    go_enter Try.func46, Try.ntmps46
    go_wp2_with fail
    refine H1.out.mono ?_
    rintro e w' ⟨rfl, rfl⟩
    have hown0 : (w.alloc (.cells #[] 30)).ownsRow w.heap.size 30 3 (.slice (some ⟨w.heap.size, 0, none⟩) 0 0) 0 [] :=
      ⟨rfl, .inr ⟨w.heap.size, 0, #[], rfl, Nat.le_refl _, heap_alloc_new w _, Nat.le_refl _, Nat.zero_le _, rfl, rfl⟩⟩
    have hsrc : ∀ j u, (flat S.all)[j]? = some u → (w.alloc (.cells #[] 30)).cell? ((⟨g, 0, none⟩ : Addr).add j) = some u := fun j u hu => by
      have hc := HH.out.all.cells (g := g) rfl j u hu
      rw [cell_alloc_some _ _ _ (by rw [hc]; rfl)]; exact hc
    have HSRC := Lib.hid hsrc; clear hsrc
    have hfl : (flat S.all).length = len * 3 := by rw [flat_len, HLEN.out]
    have HFL := Lib.hid hfl; clear hfl
    go_wp2_with (at_builtin; refine wpList_append_own _ rfl _ _ 33 rfl w.heap.size 30 i0 (.agg #[.int .u8 0, .int .i64 0, .int .i64 0]) 3 24 Try.underlying33 hi hz0 hz1 hz2 rfl (by decide) _ _ _ rfl hown0 ⟨g, 0, none⟩ len cap (flat S.all) rfl HFL.out ?c1 ?c2 ?c3 ?c4 ?c5 ?_; (case c1 => exact HSRC.out); (case c2 => exact flat_one _); (case c3 => unfold maxLen; omega); (case c4 => omega); (case c5 => rw [World.size_alloc]; omega); intro v' w1 hown' hgrow _; have hb1 := ((Below.refl w.heap.size w).alloc (Nat.le_refl _) (.cells #[] 30)).grown hgrow (by rw [World.size_alloc]; omega) (fun k e => by simp [Value.ownBlock, Act.eval] at e; omega); have hr1 := HH.out.keep0 (Keep.of_below hb1); obtain ⟨g', cap', rfl, hg1, hg2⟩ := hown'.form (by omega); have hc1 := hr1.cellF hq hj; rw [HFD.out] at hc1; have ha1 := hr1.cellA; have hz1' := hr1.tab.frozen 54; rw [Nat.zero_add, List.nil_append] at hown'; have ho2 := ownsRow_set (i := m * 3 + 2) (u := .int .i64 pos) hown'; have hz2' := ownsRow_frozen (i := m * 3 + 2) hown'; obtain ⟨hp2, _⟩ : ∃ x, w1.cell? ⟨g', m * 3 + 2, none⟩ = some x := ⟨_, ownsRow_cell hown' (flat_get _ _ _ HG.out).2.2⟩; have HB1 := Lib.hid hb1; have HR1 := Lib.hid hr1; have HO2 := Lib.hid ho2; have HO1 := Lib.hid hown'; have HG1 := Lib.hid hg1; clear hb1 hr1 ho2 hown' hg1 hgrow hc ha hz)
    go_ret
    have hb2 := HB1.out.setCell (p := ⟨g', m * 3 + 2, none⟩) HG1.out (.int .i64 pos)
    have hr2 := HH.out.keep0 (Keep.of_below hb2)
    have hrow : ((w1.setCell ⟨g', m * 3 + 2, none⟩ (.int .i64 pos)).ownsRow 0 30 3 (.slice (some ⟨g', 0, none⟩) len cap') (S.move q j pos).all.length (flat (S.move q j pos).all)) := by
      rw [HM.out]
      have h1 := ownsRow_zero HO2.out
      rw [← flat_set S.all m _ pos HG.out] at h1
      rw [show (S.all.set m { S.what (m + 1) with pos := pos }).length = len by rw [List.length_set, HLEN.out]]
      exact h1
    have hr3 := hr2.swap HINV.out (by rw [HM.out]) (by rw [HM.out]) hrow
    refine ⟨rfl, ⟨_, hr3.more fun b hb => ?_⟩, ?_⟩
    · rcases hb with hb | hb
      · exact .inl hb
      · have e : g' = b := by simpa [Value.ownBlock] using hb
        subst e
        exact .inr ⟨HG1.out, by simpa using hg2⟩
    · exact (Keep.of_below (S := (· = R)) hb2).setCell (p := ⟨R, 54, none⟩) (.inl rfl) _
  · have hS : moveS S p k pos = S := by unfold moveS; rw [if_neg he]
    rw [hS]
    replace H1 := Lib.hid H1
    have hne : (atE S p k == 0) = false := by simpa using he
    have HH := Lib.hid h
    clear h hS
    generalize atE S p k = er at *
    go_enter Try.func46, Try.ntmps46
    go_wp2_with fail
    refine H1.out.mono ?_
    rintro e w' ⟨rfl, rfl⟩
    go_wp2
    go_ret
    exact ⟨rfl, ⟨_, HH.out.more fun _ hb => .inl hb⟩, Keep.refl _ _⟩
end
end Go.Proofs.Ytdiginkpclbmdaa
