/- Copy's steps, as facts on what its loops keep. -/
import Derived.Test.YtdiginkpclbmdaaCopyInv
namespace Go.Proofs.Ytdiginkpclbmdaa
open Go.RowKit
section
variable {w wr wr' : World} {T' m c : Nat} {S : St} {sb pb' : Nat → Nat} {M : List (Nat × Nat)} {q p k : Nat}
theorem MInv.keep {G : Nat → Prop} (h : MInv w wr S sb M) (hk : Keep G wr wr') (hG : ∀ x ∈ M, ¬ G x.2) : MInv w wr' S sb M :=
  ⟨fun x hx => by obtain ⟨n, h1, h2, h3, h4⟩ := h.mem x hx; exact ⟨n, h1, h2, h3.keep hk (hG x hx), h4⟩, h.val⟩
theorem MapAt.keep {G : Nat → Prop} (h : MapAt wr m M) (hk : Keep G wr wr') (hG : ¬ G m) : MapAt wr' m M := by
  obtain ⟨es, cl, he, hp⟩ := h
  exact ⟨es, cl, (hk.block m (Array.getElem?_eq_some_iff.1 he).1 hG).trans he, hp⟩
theorem MapAt.ne {g t : Nat} {cs : List Value} (h : MapAt wr m M) (hb : Blk wr g t cs) : g ≠ m := by
  rintro rfl
  obtain ⟨es, cl, he, _⟩ := h
  unfold Blk at hb
  rw [he] at hb
  cases hb
/-- nothing of it lies in G -/
theorem CInv.still {G : Nat → Prop} (h : CInv w wr T' m c S sb pb' M q p k) (hk : Keep G wr wr') (h1 : ¬ G T') (h2 : ¬ G m) (h3 : ¬ G c) (h4 : ∀ x ∈ M, ¬ G x.2) (h5 : ∀ j, j < q → S.has j = true → ¬ G (pb' j)) (h6 : ∀ b, G b → w.heap.size ≤ b)
    (hpq : q = p ∨ q = p + 1 ∧ S.has p = true) : CInv w wr' T' m c S sb pb' M q p k := by
  have hc : c < wr.heap.size := World.block_lt_of_cell? wr (a := ⟨c, 0, none⟩) h.cel
  refine ⟨h.tab.keep hk h1, h.tabN, h.map.keep hk h2, (hk.cell (p := ⟨c, 0, none⟩) hc h3).trans h.cel, h.minv.keep hk h4, fun j hj hh => (h.proc j hj hh).keep hk (h5 j (by omega) hh), fun hq => ?_, h.new, h.inj, h.seen, h.keep.thenF hk (fun x hx => .inr (h6 x hx))⟩
  rcases hpq with e | ⟨e, hh⟩
  · omega
  · exact (h.cur hq).keep hk (h5 p (by omega) hh)
theorem CInv.skip (h : CInv w wr T' m c S sb pb' M p p 0) (hi : S.Inv) (hp : p < 6) (hh : S.has p = false) : CInv w wr T' m c S sb pb' M (p + 1) (p + 1) 0 := by
  refine ⟨?_, h.tabN, h.map, h.cel, h.minv, fun j hj hhj => ?_, fun hq => by omega, fun j hj hhj => ?_, fun i j hi' hj hhi hhj e => ?_, fun j i hji hi8 hf => ?_, h.keep⟩
  · have e : row 6 (fun j => if j < p + 1 then tcell S pb' j else .pointer none) = row 6 (fun j => if j < p then tcell S pb' j else .pointer none) := by
      refine row_congr fun j _ => ?_
      by_cases e : j = p
      · subst e; rw [if_pos (by omega), if_neg (by omega), tcell_none hh]
      · by_cases e2 : j < p
        · rw [if_pos e2, if_pos (by omega)]
        · rw [if_neg e2, if_neg (by omega)]
    rw [e]; exact h.tab
  · have : j ≠ p := by rintro rfl; rw [hh] at hhj; cases hhj
    exact h.proc j (by omega) hhj
  · have : j ≠ p := by rintro rfl; rw [hh] at hhj; cases hhj
    exact h.new j (by omega) hhj
  · have h1 : i ≠ p := by rintro rfl; rw [hh] at hhi; cases hhi
    have h2 : j ≠ p := by rintro rfl; rw [hh] at hhj; cases hhj
    exact h.inj i j (by omega) (by omega) hhi hhj e
  · rcases hji with hji | ⟨rfl, hji⟩
    · by_cases e : j = p
      · subst e; exact absurd (hi.none j i hp hi8 hh) hf
      · exact h.seen j i (.inl (by omega)) hi8 hf
    · omega
theorem CInv.whole (h : CInv w wr T' m c S sb pb' M (p + 1) p 8) : CInv w wr T' m c S sb pb' M (p + 1) (p + 1) 0 := by
  refine ⟨h.tab, h.tabN, h.map, h.cel, h.minv, fun j hj hhj => ?_, fun hq => by omega, h.new, h.inj, fun j i hji hi8 hf => ?_, h.keep⟩
  · by_cases e : j = p
    · subst e
      have := h.cur rfl
      have e : row 8 (fun i => if i < 8 then pcell S (fun n => lk M (sb n)) j i else .pointer none) = row 8 (pcell S (fun n => lk M (sb n)) j) := row_congr fun i hi => by rw [if_pos hi]
      rw [e] at this; exact this
    · exact h.proc j (by omega) hhj
  · rcases hji with hji | ⟨rfl, hji⟩
    · by_cases e : j = p
      · subst e; exact h.seen j i (.inr ⟨rfl, hi8⟩) hi8 hf
      · exact h.seen j i (.inl (by omega)) hi8 hf
    · omega
/-- the cells of process p from k on: one more -/
theorem cur_succ (S : St) (f : Nat → Nat) (p k : Nat) : (row 8 (fun i => if i < k then pcell S f p i else .pointer none)).set k (pcell S f p k) = row 8 (fun i => if i < k + 1 then pcell S f p i else .pointer none) := by
  rw [row_set]
  refine row_congr fun i _ => ?_
  by_cases e : i = k
  · subst e; rw [if_pos rfl, if_pos (by omega)]
  · rw [if_neg e]
    by_cases h : i < k
    · rw [if_pos h, if_pos (by omega)]
    · rw [if_neg h, if_neg (by omega)]
theorem pcell_congr {S : St} {f g : Nat → Nat} {p i : Nat} (h : S.fd p i ≠ 0 → f (S.fd p i) = g (S.fd p i)) : pcell S f p i = pcell S g p i := by
  by_cases e : S.fd p i = 0
  · rw [pcell_none e, pcell_none e]
  · rw [pcell_some e, pcell_some e, h e]
/-- a descriptor that is laid, its pair being there -/
theorem CInv.lay (h : CInv w wr T' m c S sb pb' M (p + 1) p k) (hk8 : k < 8) (hh : S.has p = true) (hs : S.fd p k ≠ 0 → ∃ x ∈ M, x.1 = sb (S.fd p k)) :
    CInv w (wr.setCell ⟨pb' p, k, none⟩ (pcell S (fun n => lk M (sb n)) p k)) T' m c S sb pb' M (p + 1) p (k + 1) := by
  have hcur := h.cur rfl
  have hk : Keep (· = pb' p) wr (wr.setCell ⟨pb' p, k, none⟩ (pcell S (fun n => lk M (sb n)) p k)) := Keep.setCell (S := (· = pb' p)) (Keep.refl _ wr) (.inl rfl) _
  have hcb : c ≠ pb' p := by
    rintro rfl
    have h1 := h.cel
    have h2 := hcur.cell_of (i := 0) (row_get _ (by decide))
    rw [h1] at h2
    split at h2
    · unfold pcell ptr? at h2; cases h2
    · cases h2
  have hnew := h.new p (by omega) hh
  refine ⟨h.tab.keep hk (h.tab.ne_ hcur (by decide)), h.tabN, h.map.keep hk (fun e => h.map.ne hcur e.symm), (hk.cell (p := ⟨c, 0, none⟩) (World.block_lt_of_cell? wr (a := ⟨c, 0, none⟩) h.cel) hcb).trans h.cel,
    h.minv.keep hk (fun x hx => ?_), fun j hj hhj => (h.proc j hj hhj).keep hk (fun e => by have := h.inj j p (by omega) (by omega) hhj hh e; omega), fun _ => ?_, h.new, h.inj, fun j i hji hi8 hf => ?_, h.keep.thenF hk (fun x hx => .inr (by subst hx; exact hnew))⟩
  · obtain ⟨n, _, _, hb, _⟩ := h.minv.mem x hx
    exact hb.ne_ hcur (by decide)
  · have := hcur.set_ k (pcell S (fun n => lk M (sb n)) p k)
    rw [cur_succ] at this; exact this
  · rcases hji with hji | ⟨rfl, hji⟩
    · exact h.seen j i (.inl hji) hi8 hf
    · by_cases e : i = k
      · subst e; exact hs hf
      · exact h.seen j i (.inr ⟨rfl, by omega⟩) hi8 hf
/-- a pair more -/
theorem CInv.pair (h : CInv w wr T' m c S sb pb' M (p + 1) p k) {n nb : Nat} (hl : Live S n) (hk : Keep (· = m) wr wr') (hm : MapAt wr' m (M ++ [(sb n, nb)]))
    (hb : Blk wr' nb 72 (shc (S.what n) (cnt S.fd n))) (hnb : wr.heap.size ≤ nb) (hcm : c ≠ m) (hmw : w.heap.size ≤ m) : CInv w wr' T' m c S sb pb' (M ++ [(sb n, nb)]) (p + 1) p k := by
  have hwr := h.keep.size
  have hold : ∀ n', (∃ x ∈ M, x.1 = sb n') → lk (M ++ [(sb n, nb)]) (sb n') = lk M (sb n') := fun n' hx => lk_old _ hx
  refine ⟨h.tab.keep hk (h.map.ne h.tab), h.tabN, hm, (hk.cell (p := ⟨c, 0, none⟩) (World.block_lt_of_cell? wr (a := ⟨c, 0, none⟩) h.cel) hcm).trans h.cel, ⟨fun x hx => ?_, fun x hx y hy e => ?_⟩, fun j hj hhj => ?_, fun _ => ?_, h.new, h.inj, fun j i hji hi8 hf => ?_, h.keep.thenF hk (fun x hx => .inr (by subst hx; exact hmw))⟩
  · rcases List.mem_append.1 hx with hx | hx
    · obtain ⟨n', h1, h2, h3, h4⟩ := h.minv.mem x hx
      exact ⟨n', h1, h2, h3.keep hk (h.map.ne h3), h4⟩
    · have : x = (sb n, nb) := by simpa using hx
      subst this
      exact ⟨n, hl, rfl, hb, by simp; omega⟩
  · have lt : ∀ x ∈ M, x.2 < wr.heap.size := fun x hx => by obtain ⟨_, _, _, h3, _⟩ := h.minv.mem x hx; exact h3.lt
    rcases List.mem_append.1 hx with hx | hx <;> rcases List.mem_append.1 hy with hy | hy
    · exact h.minv.val x hx y hy e
    · have : y = (sb n, nb) := by simpa using hy
      subst this
      have := lt x hx
      simp at e; omega
    · have : x = (sb n, nb) := by simpa using hx
      subst this
      have := lt y hy
      simp at e; omega
    · have h1 : x = (sb n, nb) := by simpa using hx
      have h2 : y = (sb n, nb) := by simpa using hy
      rw [h1, h2]
  · have := (h.proc j hj hhj).keep hk (h.map.ne (h.proc j hj hhj))
    have e : row 8 (pcell S (fun n' => lk (M ++ [(sb n, nb)]) (sb n')) j) = row 8 (pcell S (fun n' => lk M (sb n')) j) := row_congr fun i hi => pcell_congr fun hf => hold _ (h.seen j i (.inl hj) hi hf)
    rw [e]; exact this
  · have := (h.cur rfl).keep hk (h.map.ne (h.cur rfl))
    have e : row 8 (fun i => if i < k then pcell S (fun n' => lk (M ++ [(sb n, nb)]) (sb n')) p i else .pointer none) = row 8 (fun i => if i < k then pcell S (fun n' => lk M (sb n')) p i else .pointer none) := row_congr fun i hi => by
      by_cases hik : i < k
      · rw [if_pos hik, if_pos hik]; exact pcell_congr fun hf => hold _ (h.seen p i (.inr ⟨rfl, hik⟩) hi hf)
      · rw [if_neg hik, if_neg hik]
    rw [e]; exact this
  · obtain ⟨x, hx, he⟩ := h.seen j i hji hi8 hf
    exact ⟨x, List.mem_append_left _ hx, he⟩
def upd (f : Nat → Nat) (p v : Nat) : Nat → Nat := fun j => if j = p then v else f j
/-- a process more, with no descriptor yet -/
theorem CInv.begun (h : CInv w wr T' m c S sb pb' M p p 0) (hp : p < 6) (hh : S.has p = true) (hmw : w.heap.size ≤ T') :
    CInv w ((wr.setCell ⟨T', p, none⟩ (.pointer (some ⟨wr.heap.size, 0, none⟩))).alloc (.cells (row 8 (fun _ => .pointer none)).toArray 67)) T' m c S sb (upd pb' p wr.heap.size) M (p + 1) p 0 := by
  have hk : Keep (· = T') wr ((wr.setCell ⟨T', p, none⟩ (.pointer (some ⟨wr.heap.size, 0, none⟩))).alloc (.cells (row 8 (fun _ => .pointer none)).toArray 67)) := (Keep.setCell (S := (· = T')) (Keep.refl _ wr) (.inl rfl) _).alloc _
  have hwr := h.keep.size
  have hcT : c ≠ T' := by
    rintro rfl
    have h1 := h.cel
    have h2 := h.tab.cell_of (i := 0) (row_get _ (by decide))
    rw [h1] at h2
    split at h2
    · unfold tcell ptr? at h2; cases h2
    · cases h2
  have hlt : ∀ j, j < p → S.has j = true → pb' j < wr.heap.size := fun j hj hhj => (h.proc j hj hhj).lt
  have hu : ∀ j, j < p → upd pb' p wr.heap.size j = pb' j := fun j hj => by unfold upd; rw [if_neg (by omega)]
  have hup : upd pb' p wr.heap.size p = wr.heap.size := by unfold upd; rw [if_pos rfl]
  refine ⟨?_, h.tabN, h.map.keep hk (fun e => h.map.ne h.tab e.symm), (hk.cell (p := ⟨c, 0, none⟩) (World.block_lt_of_cell? wr (a := ⟨c, 0, none⟩) h.cel) hcT).trans h.cel,
    h.minv.keep hk (fun x hx => ?_), fun j hj hhj => ?_, fun _ => ?_, fun j hj hhj => ?_, fun i j hi hj hhi hhj e => ?_, fun j i hji hi8 hf => ?_, h.keep.thenF hk (fun x hx => .inr (by subst hx; exact hmw))⟩
  · have := (h.tab.set_ p (.pointer (some ⟨wr.heap.size, 0, none⟩))).alloc (.cells (row 8 (fun _ => .pointer none)).toArray 67)
    rw [row_set] at this
    have e : row 6 (fun j => if j < p + 1 then tcell S (upd pb' p wr.heap.size) j else .pointer none) = row 6 (fun j => if j = p then .pointer (some ⟨wr.heap.size, 0, none⟩) else if j < p then tcell S pb' j else .pointer none) := by
      refine row_congr fun j _ => ?_
      by_cases e : j = p
      · subst e; rw [if_pos (by omega), if_pos rfl, tcell_some hh, hup]
      · rw [if_neg e]
        by_cases e2 : j < p
        · rw [if_pos (by omega), if_pos e2]; unfold tcell; rw [hu j e2]
        · rw [if_neg (by omega), if_neg e2]
    rw [e]; exact this
  · obtain ⟨n, _, _, hb, _⟩ := h.minv.mem x hx
    exact hb.ne_ h.tab (by decide)
  · rw [hu j hj]; exact (h.proc j hj hhj).keep hk ((h.proc j hj hhj).ne_ h.tab (by decide))
  · rw [hup]
    have := Blk.new (wr.setCell ⟨T', p, none⟩ (.pointer (some ⟨wr.heap.size, 0, none⟩))) 67 (row 8 (fun _ => .pointer none))
    rw [show (wr.setCell ⟨T', p, none⟩ (.pointer (some ⟨wr.heap.size, 0, none⟩))).heap.size = wr.heap.size by simp] at this
    have e : row 8 (fun i => if i < 0 then pcell S (fun n => lk M (sb n)) p i else .pointer none) = row 8 (fun _ => .pointer none) := row_congr fun i _ => by rw [if_neg (by omega)]
    rw [e]; exact this
  · by_cases e : j = p
    · subst e; rw [hup]; omega
    · rw [hu j (by omega)]; exact h.new j (by omega) hhj
  · by_cases ei : i = p <;> by_cases ej : j = p
    · rw [ei, ej]
    · subst ei; rw [hup, hu j (by omega)] at e; have := hlt j (by omega) hhj; omega
    · subst ej; rw [hup, hu i (by omega)] at e; have := hlt i (by omega) hhi; omega
    · rw [hu i (by omega), hu j (by omega)] at e; exact h.inj i j (by omega) (by omega) hhi hhj e
  · rcases hji with hji | ⟨rfl, hji⟩
    · exact h.seen j i (.inl hji) hi8 hf
    · omega
/-- all is copied -/
theorem CInv.all {T : Nat} {pb : Nat → Nat} {F : Nat → Prop} (h : CInv w wr T' m c S sb pb' M 6 6 0) (hr : RepT w T S pb sb F) : RT wr T' S (fun b => w.heap.size ≤ b ∧ b < wr.heap.size) := by
  have hsee : ∀ n, Live S n → ∃ x ∈ M, x.1 = sb n := fun n hn => by
    obtain ⟨p, k, hp, hk, he⟩ := cnt_of_pos hn.2
    have := h.seen p k (.inl hp) hk (by rw [he]; exact hn.1)
    rw [he] at this; exact this
  have hsh : ∀ n, Live S n → Blk wr (lk M (sb n)) 72 (shc (S.what n) (cnt S.fd n)) ∧ w.heap.size ≤ lk M (sb n) := fun n hn => by
    obtain ⟨n', h1, h2, h3, h4⟩ := h.minv.mem _ (lk_mem (hsee n hn))
    have : n = n' := hr.sinj n n' hn h1 h2
    subst this
    exact ⟨h3, h4⟩
  refine ⟨pb', fun n => lk M (sb n), hr.inv, ?_, fun p hp hh => h.proc p hp hh, fun n hn => (hsh n hn).1, fun p q hp hq hhp hhq e => h.inj p q hp hq hhp hhq e, fun n m' hn hm e => ?_, ⟨h.tabN, h.tab.lt⟩, fun p hp hh => ⟨h.new p hp hh, (h.proc p hp hh).lt⟩, fun n hn => ⟨(hsh n hn).2, (hsh n hn).1.lt⟩⟩
  · have e : row 6 (fun j => if j < 6 then tcell S pb' j else .pointer none) = row 6 (tcell S pb') := row_congr fun j hj => by rw [if_pos hj]
    rw [← e]; exact h.tab
  · have := h.minv.val _ (lk_mem (hsee n hn)) _ (lk_mem (hsee m' hm)) e
    exact hr.sinj n m' hn hm (by injection this)
end
end Go.Proofs.Ytdiginkpclbmdaa
