/- The document's disk: Set, Sector, Waiting, Size. -/
import Derived.Test.YtjlenocmfeggdaaRefF
import Derived.Test.YtjlenocmfeggdaaRefD
import Derived.Test.YtjlenocmfeggdaaImpP
import Derived.Deep.RegionHeld3
namespace Go.Proofs.Ytjlenocmfeggdaa
open Go.RowKit
attribute [local go_sem] cell_alloc_some frozen_alloc_some
section
variable {w w' : World} {R M : Nat} {S : St} {v sv bv : Value} {iv : Nat → Value} {W F : Nat → Prop}
/-- another row -/
theorem RepR.sset {w1 : World} (h : RepR w R M S v sv bv iv W F) {gs cs k : Nat} (hsv : sv = .slice (some ⟨gs, 0, none⟩) S.ns cs) (hk1 : Keep none_ w w1) {u : Value} {g : Nat → UInt8} (hu : w1.ownsRow w.heap.size 5 1 u 32 ((bytes32 g).map byv)) :
    RepR (w1.setCell ⟨gs, k, none⟩ u) R M { S with sec := upd2 S.sec k g } v sv bv (iput iv k u) W (ext F w (w1.setCell ⟨gs, k, none⟩ u)) ∧ Keep (fun b => sv.ownBlock = some b) w (w1.setCell ⟨gs, k, none⟩ u) := by
  subst hsv
  have h1 := h.keep0 hk1
  obtain ⟨gS, cap, rest, hv, _, _, hbS⟩ := own_block h1.secs h.inv.ns0
  injection hv with e1 _ e3
  injection e1 with e1
  injection e1 with e1
  subst e1 e3
  have kD : Keep (· = gs) w1 (w1.setCell ⟨gs, k, none⟩ u) := Keep.setCell (S := (· = gs)) (p := ⟨gs, k, none⟩) (Keep.refl _ w1) (.inl rfl) _
  have nb : ∀ {b t : Nat} {cs' : List Value}, Blk w1 b t cs' → t ≠ 35 → Blk (w1.setCell ⟨gs, k, none⟩ u) b t cs' := fun hb ht => hb.keep kD (hb.ne_ hbS ht)
  have no : ∀ {base e size n : Nat} {x : Value} {xs : List Value}, w1.ownsRow base e size x n xs → e ≠ 35 → (w1.setCell ⟨gs, k, none⟩ u).ownsRow base e size x n xs := fun ho he => ownsRow_keep ho kD (fun b hb e => own_ne ho hbS he (by rw [hb, e]))
  refine ⟨⟨⟨h.inv.ns0, h.inv.ns1, h.inv.nf0, h.inv.nf1, h.inv.q8, h.inv.ok⟩, nb h1.disk (by decide), no h1.que (by decide), ?_, fun i hi => ?_, nb h1.mem (by decide), no h1.frs (by decide), h.wR, h.wS, h.wB, fun i hi => ?_, fun b hb => .inl (h.wF b hb), .inl h.footM, fun b hb => .inl (h.footQ b hb)⟩, (hk1.mono (fun _ hx => hx.elim)).thenF kD (fun b hb => .inl (by subst hb; rfl))⟩
  · have := (h1.secs.stored k u).1
    rw [row_set] at this
    exact this
  · show (w1.setCell ⟨gs, k, none⟩ u).ownsRow 0 5 1 (iput iv k u i) 32 ((bytes32 (upd2 S.sec k g i)).map byv) ∧ _
    unfold iput upd2
    by_cases e : i = k
    · rw [if_pos e, if_pos e]
      exact ⟨ownsRow_base (no hu (by decide)) (Nat.zero_le _), fun b hb => .inr ⟨(ownsRow_lt hu hb).1, by have := (ownsRow_lt hu hb).2; simpa [World.setCell] using this⟩⟩
    · rw [if_neg e, if_neg e]
      exact ⟨no (h1.rows i hi).1 (by decide), fun b hb => .inl ((h1.rows i hi).2 b hb)⟩
  · unfold iput
    by_cases e : i = k
    · rw [if_pos e]
      intro hx
      obtain ⟨bb, cb, hbv, _⟩ := h.bslice
      have h3 := (ownsRow_lt hu (g := bb) (by rw [hx, hbv]; rfl)).1
      have h4 := (ownsRow_lt h.frs (g := bb) (by rw [hbv]; rfl)).2
      omega
    · rw [if_neg e]; exact h.ne i hi
set_option maxRecDepth 100000 in
set_option maxHeartbeats 1000000 in
theorem rset_any (h : RepR w R M S v sv bv iv W F) (i : Int) (u : Value) (b : List UInt8) (hu : Bytes w u b) :
    Calls Try.prog 65 #[.pointer (some ⟨R, 0, none⟩), .int .i64 i, u] w fun e w' => e = .returned (.int .i64 (setE S i b)) ∧ (∃ iv', RepR w' R M (setS S i b) v sv bv iv' W (ext F w w')) ∧ Keep (fun b => sv.ownBlock = some b) w w' := by
  obtain ⟨i0, hi0, hz0, hz1, hz2⟩ := info_parts info5
  obtain ⟨A, cap, rfl, hl, hh⟩ := hu
  have hl' : b.length ≤ 9223372036854775807 := by unfold maxLen at hl; exact hl
  obtain ⟨gs, cs, rfl, hcs⟩ := h.rlenS
  have c0 := h.disk.cell_of (i := 0) rfl
  have hns := h.inv.ns1
  have hmore : RepR w R M S v (.slice (some ⟨gs, 0, none⟩) S.ns cs) bv iv W (ext F w w) := h.more (fun b hb => .inl hb) (fun _ hb => hb) (fun b hb => .inl (h.wF b hb))
  rcases set_cases S i b with ⟨he, hc⟩ | ⟨he, hc, hb⟩ | ⟨he, ⟨k, rfl, hk⟩, hb⟩
  · have hS : setS S i b = S := by unfold setS; rw [if_neg (by rw [he]; decide)]
    rw [he, hS]
    have HR := Lib.hid hmore
    clear h he hS hh hmore
    have HC := Lib.hid hc
    clear hc
    generalize S.ns = ns at *
    go_enter Try.func65, Try.ntmps65
    go_wp2
    all_goals first
      | (exfalso; have := HC.out; omega)
      | (go_ret; exact ⟨rfl, ⟨_, HR.out⟩, Keep.refl _ _⟩)
  · have hS : setS S i b = S := by unfold setS; rw [if_neg (by rw [he]; decide)]
    rw [he, hS]
    have HR := Lib.hid hmore
    clear h he hS hh hl hmore
    obtain ⟨hc1, hc2⟩ := hc
    generalize S.ns = ns at *
    generalize b.length = n at *
    have hn : ((n : Int) != 32) = true := by rw [bne_iff_ne]; omega
    go_enter Try.func65, Try.ntmps65
    go_wp2
    go_ret
    exact ⟨rfl, ⟨_, HR.out⟩, Keep.refl _ _⟩
  · have hS : setS S k b = { S with sec := upd2 S.sec k (bytesOf b) } := by unfold setS; rw [if_pos he]; rfl
    rw [he, hS]
    have HSET : Hid (∀ {w1 : World} {u : Value}, Keep none_ w w1 → w1.ownsRow w.heap.size 5 1 u 32 (b.map byv) → RepR (w1.setCell ⟨gs, k, none⟩ u) R M { S with sec := upd2 S.sec k (bytesOf b) } v (.slice (some ⟨gs, 0, none⟩) S.ns cs) bv (iput iv k u) W (ext F w (w1.setCell ⟨gs, k, none⟩ u)) ∧ Keep (fun b => (Value.slice (some ⟨gs, 0, none⟩) S.ns cs).ownBlock = some b) w (w1.setCell ⟨gs, k, none⟩ u)) := fun hk1 hu => h.sset rfl hk1 (by rw [bytes_of b hb]; exact hu)
    have hcell := h.secs.cellAt k (by omega)
    rw [row_get _ hk] at hcell
    have hz := h.secs.frozenAt k
    have HHO : Hid (∀ {V : World}, Keep none_ w V → Holds V A 32 1 (b.map byv)) := fun hk => by have := hh.keep hk (fun _ _ => id); rw [hb] at this; exact this
    have HBO := Lib.hid (byv_one b)
    have HSEC : Hid (∀ {V : World}, Keep none_ w V → V.ownsRow 0 35 1 (.slice (some ⟨gs, 0, none⟩) S.ns cs) S.ns (row S.ns iv)) := fun hk => ownsRow_keep h.secs hk (fun _ _ => id)
    have hRg : R ≠ gs := fun e => own_ne h.secs h.disk (by decide) (by rw [e]; rfl)
    have hgl := (ownsRow_lt h.secs (g := gs) rfl).2
    have hRl := h.disk.lt
    clear h he hS hh hl hmore
    generalize b.map byv = bs at *
    generalize hns' : S.ns = ns at *
    have HNS := Lib.hid hns'
    clear hns'
    rw [hb]
    clear hb hl'
    have j0 : (0 : Int) ≤ (k : Int) := by omega
    have j1 : (k : Int) < (ns : Int) := by omega
    go_enter Try.func65, Try.ntmps65
    go_wp2_with fail
    have HK0 : Hid (Keep none_ w w.drew) := (Keep.refl _ w).drew
    have HKA : Hid (Keep none_ w (w.alloc (.cells #[] 5)).drew) := ((Keep.refl _ w).alloc _).drew
    have HOA : Hid ((w.alloc (.cells #[] 5)).drew.ownsRow w.heap.size 5 1 (.slice (some ⟨w.heap.size, 0, none⟩) 0 0) 0 []) := World.ownsRow.drew (World.ownsRow_made (e := 5) (size := 1) (base := w.heap.size) w #[] 0 (Nat.le_refl _) (by decide) rfl)
    have b0 := HK0.out.cellS c0 id
    have a0 := HKA.out.cellS c0 id
    go_region_held3 (fun V => V.cell? ⟨R, 0, none⟩ = some (.slice (some ⟨gs, 0, none⟩) ns cs))
      (first | exact b0 | exact a0 | exact t0 | exact r0 | go_keep)
      ((refine step_append_gen (by rfl) _ _ 35 (by rfl) w.heap.size 5 i0 (.int .u8 0) 1 1 Try.underlying35 hi0 hz0 hz1 hz2 rfl (by decide) (.slice (some ⟨w.heap.size, 0, none⟩) 0 0) 0 [] (by rfl) HOA.out A 32 cap bs (by rfl) (HHO.out HKA.out) HBO.out (by unfold maxLen; omega) (by omega) HKA.out.size ?_; intro v2 W2 hown hg hob; obtain ⟨g2, cap2, rfl, hcc1, hcc2⟩ := hown.form (by decide); have hkg : Keep none_ w W2 := HKA.out.thenF (Keep.of_grown hg) (fun x hx => .inr (by injection hx with hx; exact Nat.le_of_eq hx)); have t0 := hkg.cellS c0 id; have t1 := hkg.cellS hcell id; have ho2 : W2.ownsRow w.heap.size 5 1 (.slice (some ⟨g2, 0, none⟩) 32 cap2) 32 bs := (by have := hown; rw [Nat.zero_add, List.nil_append] at this; exact this); have hF := HSET.out hkg ho2; have z1 := (HSEC.out hkg).frozenAt k; have r0 : (W2.setCell ⟨gs, k, none⟩ (.slice (some ⟨g2, 0, none⟩) 32 cap2)).cell? ⟨R, 0, none⟩ = some (.slice (some ⟨gs, 0, none⟩) ns cs) := hF.2.cellS c0 (fun e => hRg (by injection e with e; exact e.symm)); have HF := Lib.hid hF; have HKG := Lib.hid hkg; clear hF hown hg hob))
    go_wp2
    go_ret
    exact ⟨rfl, ⟨_, HF.out.1⟩, HF.out.2⟩
theorem RepR.rowCell {gs cs : Nat} (h : RepR w R M S v (.slice (some ⟨gs, 0, none⟩) S.ns cs) bv iv W F) {k : Nat} (hk : k < S.ns) : w.cell? ⟨gs, k, none⟩ = some (iv k) := by
  have := h.secs.cellAt k (by omega)
  rw [row_get _ hk] at this
  exact this
theorem RepR.rowForm (h : RepR w R M S v sv bv iv W F) {k : Nat} (hk : k < S.ns) : ∃ g c, iv k = .slice (some ⟨g, 0, none⟩) 32 c ∧ ∀ j u, ((bytes32 (S.sec k)).map byv)[j]? = some u → w.cell? ((⟨g, 0, none⟩ : Addr).add j) = some u := by
  have h1 := (h.rows k hk).1
  obtain ⟨g, c, hv, _, _⟩ := h1.form (by decide)
  rw [hv] at h1
  exact ⟨g, c, hv, fun j u hu => ownsRow_cell h1 hu⟩
set_option maxRecDepth 100000 in
set_option maxHeartbeats 400000 in
theorem rsector_ok (h : RepR w R M S v sv bv iv W F) (i : Nat) (hi : i < S.ns) :
    Calls Try.prog 53 #[.pointer (some ⟨R, 0, none⟩), .int .i64 i] w fun e w' => ∃ u, e = .returned (.tuple #[u, .int .i64 0]) ∧ w'.ownsRow w.heap.size 5 1 u 32 ((bytes32 (S.sec i)).map byv) ∧ Keep none_ w w' := by
  obtain ⟨i0, hi0, hz0, hz1, hz2⟩ := info_parts info5
  obtain ⟨gs, cs, rfl, hcs⟩ := h.rlenS
  have c0 := h.disk.cell_of (i := 0) rfl
  have c1 := h.rowCell hi
  obtain ⟨g, c, hv, hc⟩ := h.rowForm hi
  rw [hv] at c1
  have hns := h.inv.ns1
  have HH : Hid (Holds (w.alloc (.cells #[] 5)) (some ⟨g, 0, none⟩) 32 1 ((bytes32 (S.sec i)).map byv)) := Holds.keep (G := none_) (.inr ⟨_, rfl, by simp [bytes32], hc⟩) ((Keep.refl _ w).alloc _) (fun _ _ => id)
  have HO : Hid ((w.alloc (.cells #[] 5)).ownsRow w.heap.size 5 1 (.slice (some ⟨w.heap.size, 0, none⟩) 0 0) 0 []) := World.ownsRow_made (e := 5) (size := 1) (base := w.heap.size) w #[] 0 (Nat.le_refl _) (by decide) rfl
  have HB := Lib.hid (byv_one (bytes32 (S.sec i)))
  clear h hc hv
  generalize (bytes32 (S.sec i)).map byv = L at *
  generalize S.ns = ns at *
  have j0 : (0 : Int) ≤ (i : Int) := by omega
  have j1 : (i : Int) < (ns : Int) := by omega
  go_enter Try.func53, Try.ntmps53
  go_wp2_with (at_builtin; refine wpList_append_gen rfl _ _ 35 rfl w.heap.size 5 i0 (.int .u8 0) 1 1 Try.underlying35 hi0 hz0 hz1 hz2 rfl (by decide) (.slice (some ⟨w.heap.size, 0, none⟩) 0 0) 0 [] rfl HO.out (some ⟨g, 0, none⟩) 32 c L rfl HH.out HB.out (by unfold maxLen; omega) (by omega) (by simp) ?_; intro v' w' hown hg hob)
  have HW := Lib.hid hown
  have HK : Hid (Keep none_ w w') := ((Keep.refl none_ w).alloc _).thenF (Keep.of_grown hg) (fun x hx => .inr (by injection hx with hx; exact Nat.le_of_eq hx))
  clear hown hg hob
  go_wp2
  go_ret2
  exact ⟨v', rfl, by have := HW.out; rw [Nat.zero_add, List.nil_append] at this; exact this, HK.out⟩
set_option maxRecDepth 100000 in
theorem rsector_err (h : RepR w R M S v sv bv iv W F) (i : Int) (hi : i < 0 ∨ (S.ns : Int) ≤ i) :
    Calls Try.prog 53 #[.pointer (some ⟨R, 0, none⟩), .int .i64 i] w fun e w' => e = .returned (.tuple #[.slice none 0 0, .int .i64 2]) ∧ w = w' := by
  obtain ⟨gs, cs, rfl, hcs⟩ := h.rlenS
  have c0 := h.disk.cell_of (i := 0) rfl
  have hns := h.inv.ns1
  have HC := Lib.hid hi
  clear h hi
  generalize S.ns = ns at *
  go_enter Try.func53, Try.ntmps53
  go_wp2
  all_goals first
    | (exfalso; have := HC.out; omega)
    | (go_ret2; exact ⟨rfl, rfl⟩)
set_option maxRecDepth 100000 in
theorem rwaiting_any (h : RepR w R M S v sv bv iv W F) :
    Calls Try.prog 57 #[.pointer (some ⟨R, 0, none⟩)] w fun e w' => ∃ u, e = .returned u ∧ w'.ownsRow w.heap.size 44 5 u S.q.length (flatQ S.q) ∧ Keep none_ w w' := by
  obtain ⟨i0, hi0, hz0, hz1, hz2⟩ := info_parts info44
  obtain ⟨A, cap, rfl⟩ := h.rlenQ
  have c1 := h.disk.cell_of (i := 1) rfl
  have hq8 := h.inv.q8
  have HH : Hid (Holds (w.alloc (.cells #[] 44)) A S.q.length 5 (flatQ S.q)) := (Holds.of_own h.que).keep (G := none_) ((Keep.refl _ w).alloc _) (fun _ _ => id)
  have HO : Hid ((w.alloc (.cells #[] 44)).ownsRow w.heap.size 44 5 (.slice (some ⟨w.heap.size, 0, none⟩) 0 0) 0 []) := World.ownsRow_made (e := 44) (size := 5) (base := w.heap.size) w #[] 0 (Nat.le_refl _) (by decide) rfl
  have HB := Lib.hid (flatQ_one S.q)
  clear h
  generalize flatQ S.q = L at *
  generalize S.q.length = n at *
  go_enter Try.func57, Try.ntmps57
  go_wp2_with (at_builtin; refine wpList_append_gen rfl _ _ 38 rfl w.heap.size 44 i0 (.agg #[.int .u32 0, .bool false, .int .i64 0, .int .i64 0, .int .u8 0]) 5 32 Try.underlying38 hi0 hz0 hz1 hz2 rfl (by decide) (.slice (some ⟨w.heap.size, 0, none⟩) 0 0) 0 [] rfl HO.out A n cap L rfl HH.out HB.out (by unfold maxLen; omega) (by omega) (by simp) ?_; intro v' w' hown hg hob)
  have HW := Lib.hid hown
  have HK : Hid (Keep none_ w w') := ((Keep.refl none_ w).alloc _).thenF (Keep.of_grown hg) (fun x hx => .inr (by injection hx with hx; exact Nat.le_of_eq hx))
  clear hown hg hob
  go_wp2
  go_ret
  exact ⟨v', rfl, by have := HW.out; rw [Nat.zero_add, List.nil_append] at this; exact this, HK.out⟩
theorem rdsize_any (h : RepR w R M S v sv bv iv W F) : Calls Try.prog 52 #[.pointer (some ⟨R, 0, none⟩)] w fun e w' => e = .returned (.int .i64 S.ns) ∧ w = w' := by
  obtain ⟨gs, cs, rfl, hcs⟩ := h.rlenS
  have c0 := h.disk.cell_of (i := 0) rfl
  have hn := h.inv.ns1
  clear h
  generalize S.ns = ns at *
  go_enter Try.func52, Try.ntmps52
  go_wp2
  go_ret
  exact ⟨rfl, rfl⟩
end
end Go.Proofs.Ytjlenocmfeggdaa
