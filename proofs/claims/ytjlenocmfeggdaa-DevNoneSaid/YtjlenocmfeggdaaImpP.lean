/- The walks of Sector, Set, Waiting, Size, and the other copies of lists. -/
import Derived.Test.YtjlenocmfeggdaaImpO
namespace Go.Proofs.Ytjlenocmfeggdaa
open Go.RowKit
attribute [local go_sem] cell_alloc_some frozen_alloc_some
/-- what a call is handed: a slice of bytes -/
def Bytes (w : World) (v : Value) (l : List UInt8) : Prop := ∃ A cap, v = .slice A l.length cap ∧ l.length ≤ maxLen ∧ Holds w A l.length 1 (l.map byv)
section
variable {w w' : World} {D M : Nat} {S : St} {v : Value} {sb fb : Nat} {T : Tl} {F : Nat → Prop}
set_option maxRecDepth 100000 in
set_option maxHeartbeats 400000 in
theorem sector_ok (h : RepT w D M S v sb fb T F) (i : Nat) (hi : i < S.ns) :
    Calls Try.prog 18 #[.pointer (some ⟨D, 0, none⟩), .int .i64 i] w fun e w' => ∃ u, e = .returned (.tuple #[u, .int .i64 0]) ∧ w'.ownsRow w.heap.size 5 1 u 32 ((bytes32 (S.sec i)).map byv) ∧ Keep none_ w w' := by
  have H1 := Lib.hid (has_yes h i (by omega) (by omega))
  have hb := h.sectorCells hi
  have H2 := Lib.hid (clone_some w ⟨sb, i * 32, none⟩ 32 32 (bytes32 (S.sec i)) hb.1 hb.2 (by decide))
  have c2 := h.disk.cell_of (i := 2) rfl
  have hn := h.inv.ns1
  clear h hb
  generalize bytes32 (S.sec i) = bs at *
  generalize S.ns = ns at *
  have i0 : (0 : Int) ≤ (i : Int) := by omega
  have i1 : (i : Int) < (ns : Int) := by omega
  go_enter Try.func18, Try.ntmps18
  go_wp2_with fail
  refine H1.out.mono ?_
  rintro e w' ⟨rfl, rfl⟩
  go_wp2_with fail
  refine H2.out.mono ?_
  rintro e w' ⟨u, rfl, ho, hk⟩
  have HO := Lib.hid ho
  have HK := Lib.hid hk
  clear ho hk
  go_wp2
  go_ret2
  exact ⟨u, rfl, HO.out, HK.out⟩
set_option maxRecDepth 100000 in
theorem sector_err (h : RepT w D M S v sb fb T F) (i : Int) (hi : i < 0 ∨ (S.ns : Int) ≤ i) :
    Calls Try.prog 18 #[.pointer (some ⟨D, 0, none⟩), .int .i64 i] w fun e w' => e = .returned (.tuple #[.slice none 0 0, .int .i64 2]) ∧ w = w' := by
  have H1 := Lib.hid (has_no h i hi)
  clear h
  go_enter Try.func18, Try.ntmps18
  go_wp2_with fail
  refine H1.out.mono ?_
  rintro e w' ⟨rfl, rfl⟩
  go_wp2
  go_ret2
  exact ⟨rfl, rfl⟩
theorem set_cases (S : St) (i : Int) (b : List UInt8) : (setE S i b = 2 ∧ (i < 0 ∨ (S.ns : Int) ≤ i)) ∨ (setE S i b = 3 ∧ (0 ≤ i ∧ i < S.ns) ∧ b.length ≠ 32) ∨ (setE S i b = 0 ∧ (∃ k : Nat, i = k ∧ k < S.ns) ∧ b.length = 32) := by
  unfold setE
  by_cases h1 : i < 0 ∨ (S.ns : Int) ≤ i
  · rw [if_pos h1]; exact .inl ⟨rfl, h1⟩
  · rw [if_neg h1]
    by_cases h2 : b.length ≠ 32
    · rw [if_pos h2]; exact .inr (.inl ⟨rfl, by omega, h2⟩)
    · rw [if_neg h2]; exact .inr (.inr ⟨rfl, ⟨i.toNat, by omega, by omega⟩, by omega⟩)
theorem bytes_of (b : List UInt8) (h : b.length = 32) : bytes32 (bytesOf b) = b := by
  apply List.ext_getElem?
  intro j
  by_cases hj : j < 32
  · rw [bytes32_get hj, List.getElem?_eq_getElem (by omega)]; unfold bytesOf; rw [List.getD_eq_getElem?_getD, List.getElem?_eq_getElem (by omega)]; rfl
  · rw [List.getElem?_eq_none (by rw [bytes32_len]; omega), List.getElem?_eq_none (by omega)]
set_option maxRecDepth 100000 in
set_option maxHeartbeats 400000 in
theorem set_any (h : RepT w D M S v sb fb T F) (i : Int) (u : Value) (b : List UInt8) (hu : Bytes w u b) :
    Calls Try.prog 23 #[.pointer (some ⟨D, 0, none⟩), .int .i64 i, u] w fun e w' => e = .returned (.int .i64 (setE S i b)) ∧ RepT w' D M (setS S i b) v sb fb T F ∧ Keep (· = sb) w w' := by
  obtain ⟨A, cap, rfl, hl, hh⟩ := hu
  have hl' : b.length ≤ 9223372036854775807 := by unfold maxLen at hl; exact hl
  rcases set_cases S i b with ⟨he, hc⟩ | ⟨he, hc, hb⟩ | ⟨he, ⟨k, rfl, hk⟩, hb⟩
  · have hS : setS S i b = S := by unfold setS; rw [if_neg (by rw [he]; decide)]
    rw [he, hS]
    have H1 := Lib.hid (has_no h i hc)
    have HR := Lib.hid h
    clear h he hS hc hh
    go_enter Try.func23, Try.ntmps23
    go_wp2_with fail
    refine H1.out.mono ?_
    rintro e w' ⟨rfl, rfl⟩
    go_wp2
    go_ret
    exact ⟨rfl, HR.out, Keep.refl _ _⟩
  · have hS : setS S i b = S := by unfold setS; rw [if_neg (by rw [he]; decide)]
    rw [he, hS]
    have H1 := Lib.hid (has_yes h i hc.1 hc.2)
    have HR := Lib.hid h
    clear h he hS hc hh hl
    generalize b.length = n at *
    have hn : ((n : Int) != 32) = true := by rw [bne_iff_ne]; omega
    go_enter Try.func23, Try.ntmps23
    go_wp2_with fail
    refine H1.out.mono ?_
    rintro e w' ⟨rfl, rfl⟩
    go_wp2
    go_ret
    exact ⟨rfl, HR.out, Keep.refl _ _⟩
  · have hS : setS S k b = { S with sec := upd2 S.sec k (bytesOf b) } := by unfold setS; rw [if_pos he]; rfl
    rw [he, hS]
    have H1 := Lib.hid (has_yes h k (by omega) (by omega))
    have HSET : Hid (∀ {W' : World}, Keep (· = sb) w W' → Hid (Blk W' sb 98 (splice (gridT S.ns S.sec T.rs) (k * 32) (b.map byv))) → RepT W' D M { S with sec := upd2 S.sec k (bytesOf b) } v sb fb T F) := fun hkk hbb => h.sectorSet (i := k) hk (bytesOf b) hkk (by rw [bytes_of b hb]; exact hbb.out)
    have HG := Lib.hid h.secs
    have HFIT : Hid (k * 32 + (b.map byv).length ≤ (gridT S.ns S.sec T.rs).length) := by rw [gridT_len, List.length_map, hb]; show _ ≤ _; omega
    have HLN : Hid ((b.map byv).length = 32) := by rw [List.length_map]; exact Lib.hid hb
    have HO := Lib.hid (byv_one b)
    have c2 := h.disk.cell_of (i := 2) rfl
    have hn := h.inv.ns1
    have HSRC : Hid (0 < (b.map byv).length → ∃ ad, A = some ad ∧ ∀ j v, (b.map byv)[j]? = some v → w.cell? (ad.add j) = some v) := by
      rcases hh with ⟨_, h0, _⟩ | ⟨ad, rfl, _, hc⟩
      · omega
      · exact fun _ => ⟨ad, rfl, hc⟩
    rw [hb]
    clear h he hS hh hl hb hl'
    generalize b.map byv = bs at *
    generalize gridT S.ns S.sec T.rs = G at *
    generalize S.ns = ns at *
    have i0 : (0 : Int) ≤ (k : Int) := by omega
    have i1 : (k : Int) < (ns : Int) := by omega
    go_enter Try.func23, Try.ntmps23
    go_wp2_with fail
    refine H1.out.mono ?_
    rintro e w' ⟨rfl, rfl⟩
    go_wp2_with (refine wpList_copy_keep rfl _ _ 35 35 rfl 5 Try.underlying35 size5 sb (k * 32) 32 32 A 32 cap rfl rfl G 98 HG.out bs (by rw [HLN.out]; rfl) HSRC.out HFIT.out HO.out 32 HLN.out ?_; intro w1 hb1 hk1 _)
    have HF := Lib.hid (HSET.out hk1 hb1)
    have HK := Lib.hid hk1
    clear hk1
    go_wp2
    go_ret
    exact ⟨rfl, HF.out, HK.out⟩
set_option maxRecDepth 100000 in
theorem clone_reqs (w : World) (v : Value) (n base : Nat) (l : List Req) (hq : w.ownsRow base 44 5 v n (flatQ l)) (hn : n ≤ 1000) :
    Calls Try.prog 39 #[v] w fun e w' => ∃ u, e = .returned u ∧ w'.ownsRow w.heap.size 44 5 u n (flatQ l) ∧ Keep none_ w w' := by
  obtain ⟨i0, hi, hz0, hz1, hz2⟩ := info_parts info44
  have he := fun a n c n' c' w => Lib.run_eql_slice_nil (P := Try.prog) w 38 44 a n c n' c' Try.underlying38
  obtain ⟨A, cap, rfl, _, _⟩ := own_form hq
  cases A with
  | none =>
    have HO : Hid (w.ownsRow w.heap.size 44 5 (.slice none 0 0) n (flatQ l)) := by
      rcases hq.2 with ⟨hv, h0⟩ | ⟨g, c', cur, hv, _⟩
      · exact ⟨hq.1, .inl ⟨rfl, h0⟩⟩
      · cases hv
    clear hq
    go_enter Try.func39, Try.ntmps39
    go_wp2
    go_ret
    exact ⟨_, rfl, HO.out, Keep.refl _ _⟩
  | some ad =>
    have HH : Hid (Holds (w.alloc (.cells #[] 44)) (some ad) n 5 (flatQ l)) := (Holds.of_own hq).keep (G := none_) ((Keep.refl _ w).alloc _) (fun _ _ => id)
    have HO : Hid ((w.alloc (.cells #[] 44)).ownsRow w.heap.size 44 5 (.slice (some ⟨w.heap.size, 0, none⟩) 0 0) 0 []) := World.ownsRow_made (e := 44) (size := 5) (base := w.heap.size) w #[] 0 (Nat.le_refl _) (by decide) rfl
    have HB := Lib.hid (flatQ_one l)
    clear hq
    generalize flatQ l = L at *
    go_enter Try.func39, Try.ntmps39
    go_wp2_with (at_builtin; refine wpList_append_gen rfl _ _ 38 rfl w.heap.size 44 i0 (.agg #[.int .u32 0, .bool false, .int .i64 0, .int .i64 0, .int .u8 0]) 5 32 Try.underlying38 hi hz0 hz1 hz2 rfl (by decide) (.slice (some ⟨w.heap.size, 0, none⟩) 0 0) 0 [] rfl HO.out (some ad) n cap L rfl HH.out HB.out (by unfold maxLen; omega) (by omega) (by simp) ?_; intro v' w' hown hg hob)
    have HW := Lib.hid hown
    have HK : Hid (Keep none_ w w') := ((Keep.refl none_ w).alloc _).thenF (Keep.of_grown hg) (fun x hx => .inr (by injection hx with hx; exact Nat.le_of_eq hx))
    clear hown hg hob
    go_wp2
    go_ret
    exact ⟨v', rfl, by have := HW.out; rw [Nat.zero_add, List.nil_append] at this; exact this, HK.out⟩
theorem waiting_any (h : RepT w D M S v sb fb T F) :
    Calls Try.prog 14 #[.pointer (some ⟨D, 0, none⟩)] w fun e w' => ∃ u, e = .returned u ∧ w'.ownsRow w.heap.size 44 5 u S.q.length (flatQ S.q) ∧ Keep none_ w w' := by
  have H1 := Lib.hid (clone_reqs w v S.q.length 0 S.q h.que (by have := h.inv.q8; omega))
  have c0 := h.disk.cell_of (i := 0) rfl
  clear h
  go_enter Try.func14, Try.ntmps14
  go_wp2_with fail
  refine H1.out.mono ?_
  rintro e w' ⟨u, rfl, ho, hk⟩
  have HO := Lib.hid ho
  have HK := Lib.hid hk
  clear ho hk
  go_wp2
  go_ret
  exact ⟨u, rfl, HO.out, HK.out⟩
theorem size_any (h : RepT w D M S v sb fb T F) : Calls Try.prog 29 #[.pointer (some ⟨D, 0, none⟩)] w fun e w' => e = .returned (.int .i64 S.ns) ∧ w = w' := by
  have c2 := h.disk.cell_of (i := 2) rfl
  have hn := h.inv.ns1
  clear h
  generalize S.ns = ns at *
  go_enter Try.func29, Try.ntmps29
  go_wp2
  go_ret
  exact ⟨rfl, rfl⟩
end
end Go.Proofs.Ytjlenocmfeggdaa
