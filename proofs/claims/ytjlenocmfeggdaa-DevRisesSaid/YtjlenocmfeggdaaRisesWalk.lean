/- The walk of the law DevRises. -/
import Derived.Test.YtjlenocmfeggdaaCancelsWalk
namespace Go.Proofs.Ytjlenocmfeggdaa
open Go.RowKit
attribute [local go_sem] cell_alloc_some frozen_alloc_some
/-- the numbers that wait rise, and none is above the last -/
def Rising : Int → List Req → Int → Prop
  | lo, [], hi => lo ≤ hi
  | lo, r :: l, hi => lo < r.id ∧ Rising r.id l hi
theorem Rising.mono : ∀ {lo lo' hi hi' : Int} {l : List Req}, Rising lo l hi → lo' ≤ lo → hi ≤ hi' → Rising lo' l hi'
  | _, _, _, _, [], h, h1, h2 => by unfold Rising at *; omega
  | _, _, _, _, r :: l, h, h1, h2 => ⟨by have := h.1; omega, h.2.mono (Int.le_refl _) h2⟩
theorem Rising.le : ∀ {lo hi : Int} {l : List Req}, Rising lo l hi → lo ≤ hi
  | _, _, [], h => h
  | _, _, r :: l, h => by have h1 := h.1; have h2 := h.2.le; omega
theorem Rising.filter : ∀ {lo hi : Int} {l : List Req} (p : Req → Bool), Rising lo l hi → Rising lo (l.filter p) hi
  | _, _, [], _, h => h
  | _, _, r :: l, p, h => by
    by_cases hp : p r = true
    · rw [List.filter_cons_of_pos hp]; exact ⟨h.1, h.2.filter p⟩
    · rw [List.filter_cons_of_neg hp]; exact (h.2.filter p).mono (Int.le_of_lt h.1) (Int.le_refl _)
theorem Rising.erase : ∀ {lo hi : Int} {l : List Req} (i : Nat), Rising lo l hi → Rising lo (l.eraseIdx i) hi
  | _, _, [], i, h => by simpa using h
  | _, _, r :: l, 0, h => by simpa using h.2.mono (Int.le_of_lt h.1) (Int.le_refl _)
  | _, _, r :: l, i + 1, h => by rw [List.eraseIdx_cons_succ]; exact ⟨h.1, h.2.erase i⟩
theorem Rising.snoc : ∀ {lo hi : Int} {l : List Req} (x : Req), Rising lo l hi → hi < x.id → Rising lo (l ++ [x]) x.id
  | _, _, [], x, h, hx => ⟨by unfold Rising at h; omega, Int.le_refl _⟩
  | _, _, r :: l, x, h, hx => ⟨h.1, h.2.snoc x hx⟩
def Rises (S : St) : Prop := Rising 0 S.q S.last
theorem Rises.ask {S : St} (h : Rises S) (r : Req) : Rises (askS S r) := by
  unfold askS
  split
  · have := Rising.snoc ({ r with id := (S.last : Int) + 1 }) h (by simp; omega)
    unfold Rises
    simpa using this
  · exact h
theorem Rises.move {S : St} (h : Rises S) (r : Req) : Rises (S.move r) := by
  unfold St.move
  (repeat' split) <;> exact h
theorem Rises.del {S : St} (h : Rises S) (i : Int) : Rises (delS S i) := by
  unfold delS
  split
  · exact h
  · exact Rises.move (S := S.pop i.toNat) (h.erase _) _
theorem Rises.do_ {S : St} (h : Rises S) (d : Deed) : Rises (doS S d) := by
  unfold doS
  split
  · exact h.ask _
  split
  · exact h.del _
  split
  · exact h.filter _
  split
  · exact h.filter _
  split
  · unfold setS; split <;> exact h
  split
  · split
    · exact h
    · unfold pokeS; split <;> exact h
  · exact h
theorem Rises.run {S : St} (h : Rises S) (ds : List Deed) : ∀ k, Rises (runS S ds k)
  | 0 => h
  | k + 1 => (h.run ds k).do_ _
theorem Rising.get : ∀ {lo hi : Int} {l : List Req} {k : Nat} {r : Req}, Rising lo l hi → l[k]? = some r → (if k = 0 then lo else ((l.getD (k - 1) r).id)) < r.id
  | _, _, [], k, r, h, hk => by simp at hk
  | _, _, x :: l, 0, r, h, hk => by have : x = r := by simpa using hk
                                    subst this; simpa using h.1
  | _, _, x :: l, 1, r, h, hk => by have := h.2.get (k := 0) (r := r) (by simpa using hk); simpa using this
  | _, _, x :: l, k + 2, r, h, hk => by have := h.2.get (k := k + 1) (r := r) (by simpa using hk); simpa using this
theorem Rising.last_le : ∀ {lo hi : Int} {l : List Req} {r : Req}, Rising lo l hi → r ∈ l → r.id ≤ hi
  | _, _, [], r, h, hr => by cases hr
  | _, _, x :: l, r, h, hr => by
    rcases List.mem_cons.1 hr with rfl | hr
    · exact h.2.le
    · exact h.2.last_le hr
/-- the number before the k-th one: 0 at the first -/
def prevId (l : List Req) : Nat → Int
  | 0 => 0
  | k + 1 => (l.getD k zeroR).id
theorem prev_lt {l : List Req} {hi : Int} {k : Nat} {r : Req} (h : Rising 0 l hi) (hk : l[k]? = some r) : prevId l k < r.id := by
  have := h.get hk
  cases k with
  | zero => simpa [prevId] using this
  | succ k =>
    have hlt : k + 1 < l.length := (List.getElem?_eq_some_iff.1 hk).1
    simp [List.getD_eq_getElem?_getD, List.getElem?_eq_getElem (show k < l.length by omega)] at this
    simpa [prevId, List.getD_eq_getElem?_getD, List.getElem?_eq_getElem (show k < l.length by omega)] using this
theorem prev_le {l : List Req} {hi : Int} {k : Nat} (h : Rising 0 l hi) (hk : k ≤ l.length) : prevId l k ≤ hi := by
  cases k with
  | zero => exact h.le
  | succ k =>
    have : l[k]? = some l[k] := List.getElem?_eq_getElem (by omega)
    simp only [prevId, List.getD_eq_getElem?_getD, this, Option.getD_some]
    exact h.last_le (List.getElem_mem _)
theorem ask3 {S : St} (h : S.Inv) (r : Req) : (askE S r = 0 ∧ askN S r = S.last + 1 ∧ (askS S r).q.length = S.q.length + 1 ∧ S.q.length < 8) ∨ (askE S r = 2 ∧ askN S r = 0 ∧ askS S r = S) ∨ (askE S r = 4 ∧ askN S r = 0 ∧ askS S r = S ∧ S.q.length = 8) := by
  have h8 := h.q8
  unfold askN askS askE
  by_cases h1 : r.sec < 0 ∨ (S.ns : Int) ≤ r.sec ∨ r.fr < 0 ∨ 64 ≤ r.fr
  · right; left
    simp [h1]
  · by_cases h2 : 8 ≤ S.q.length
    · right; right
      simp [h1, h2]; omega
    · left
      simp [h1, h2]; omega
set_option maxRecDepth 100000 in
set_option maxHeartbeats 1000000 in
theorem rises_all (w : World) (v : Value) (ds : List Deed) (hd : Deeds w v ds) (r : Req) :
    Calls Try.prog 4 #[v, .agg (reqc r).toArray] w fun e w' => e = .returned (.bool true) ∧ Keep none_ w w' := by
  obtain ⟨wa, hwa⟩ : ∃ wa, wa = w.alloc (.cells (reqc r).toArray 44) := ⟨_, rfl⟩
  have hka : Keep none_ w wa := by rw [hwa]; exact (Keep.refl _ w).alloc _
  have HB44 : Hid (∀ {V : World}, Keep none_ wa V → Blk V w.heap.size 44 (reqc r)) := fun hk => (show Blk wa w.heap.size 44 (reqc r) by rw [hwa]; exact Blk.new w 44 _).keep hk id
  have H0 := Lib.hid (play_any wa v ds (hd.keep hka))
  obtain ⟨A, n, cap, rfl⟩ : ∃ A n cap, v = .slice A n cap := by
    rcases hd with ⟨_, rfl⟩ | ⟨a, cap, rfl, _⟩
    · exact ⟨none, 0, 0, rfl⟩
    · exact ⟨_, _, cap, rfl⟩
  have HWA := Lib.hid hwa
  have HKA := Lib.hid hka
  have HASK : Hid (∀ {a w : World} {D M R Q : Nat} {S S2 : St} {G : Nat → Prop}, Two a w D M R Q S S2 G → S.last ≤ 1000 → Calls Try.prog 16 #[.pointer (some ⟨D, 0, none⟩), .agg (reqc r).toArray] w fun e w' => e = .returned (.tuple #[.int .u32 (askN S r), .int .i64 (askE S r)]) ∧ One a w' D M (askS S r) G) := fun h hl => h.one.ask hl r
  have HCS : Hid (∀ {S : St}, S.Inv → (askE S r = 0 ∧ askN S r = S.last + 1 ∧ (askS S r).q.length = S.q.length + 1 ∧ S.q.length < 8) ∨ (askE S r = 2 ∧ askN S r = 0 ∧ askS S r = S) ∨ (askE S r = 4 ∧ askN S r = 0 ∧ askS S r = S ∧ S.q.length = 8)) := fun h => ask3 h r
  clear hd hwa hka
  obtain ⟨rid, rwr, rsec, rfr, rown⟩ := r
  unfold reqc at HB44 HWA HASK ⊢
  simp only at HB44 HWA HASK ⊢
  go_enter Try.func4, Try.ntmps4
  go_wp2_with fail
  rw [← HWA.out]
  refine H0.out.mono ?_
  rintro e w1 ⟨D, M, R, Q, rfl, h1⟩
  obtain ⟨S, hS⟩ : ∃ S, S = playS ds := ⟨_, rfl⟩
  have hri : Rises S := by rw [hS]; exact Rises.run (S := P0) (Int.le_refl _) ds _
  have hla : S.last ≤ 1000 := by rw [hS]; have h1 := run_last P0 ds (min ds.length 30); have h3 : P0.last = 0 := rfl; unfold playS; omega
  rw [← hS] at h1
  have HRI := Lib.hid hri
  have HLA := Lib.hid hla
  have HINV := Lib.hid h1.one.inv
  obtain ⟨wb, hwb⟩ : ∃ wb, wb = w1.alloc (.cells (xcells D M R Q).toArray 29) := ⟨_, rfl⟩
  have HLV : Hid (∀ {V : World} {S1 : St}, One wb V D M S1 (mid wa w1 none_) → One wa V D M S1 none_) := fun h => h.leave (by rw [hwb]; exact (Keep.refl _ w1).alloc _) h1.keep
  have HLV2 : Hid (∀ {V : World} {S1 S3 : St}, Two wb V D M R Q S1 S3 (mid wa w1 none_) → Two wa V D M R Q S1 S3 none_) := fun h => h.leave (by rw [hwb]; exact (Keep.refl _ w1).alloc _) h1.keep
  have HBK : Hid (∀ {V : World}, Keep (mid wa w1 none_) wb V → Blk V w1.heap.size 29 (xcells D M R Q)) := fun hk => (show Blk wb w1.heap.size 29 (xcells D M R Q) by rw [hwb]; exact Blk.new w1 29 _).keep hk (fun hm => by have := hm.2; omega)
  have H1 : Hid (Two wb wb D M R Q S S (mid wa w1 none_)) := by rw [hwb]; exact h1.boxed
  have HL := Lib.hid (live_any wb)
  have HWB := Lib.hid hwb
  clear h1 H0 hS hwb hri hla
  unfold xcells at HBK HWB ⊢
  go_wp2_with fail
  rw [← HWB.out]
  refine HL.out.mono ?_
  rintro e w2 ⟨rfl, hk2⟩
  have H2 := Lib.hid (H1.out.keep0 hk2)
  have c0 := (HBK.out H2.out.keep).cell_of (i := 0) rfl
  have HA := Lib.hid H2.out.waitT
  clear hk2 H1 HL
  go_wp2_with fail
  refine HA.out.mono ?_
  rintro e w3 ⟨⟨u, rfl, hu⟩, hk3⟩
  have H3 := Lib.hid (H2.out.keep0 hk3)
  obtain ⟨Au, cu, rfl, _, _⟩ := own_form hu
  have HU := Lib.hid hu
  obtain ⟨ql, hql⟩ : ∃ ql, ql = S.q := ⟨_, rfl⟩
  rw [← hql] at HU ⊢
  have HQL := Lib.hid hql
  obtain ⟨m3, hm3⟩ : ∃ m, m = ql.length := ⟨_, rfl⟩
  have HM3 := Lib.hid hm3
  unfold Reqs at HU
  rw [← hm3] at HU ⊢
  have HRQ : Hid (Rising 0 ql S.last) := by rw [HQL.out]; exact HRI.out
  have hq8 : m3 ≤ 8 := by rw [HM3.out, HQL.out]; exact HINV.out.q8
  clear hk3 H2 HA hql hm3 hu c0
  go_wp2_with fail
  go_loopw [8, 9] (fun p x wr => ∃ k : Nat, k ≤ m3 ∧ x = .int .i64 k ∧ p = .int .u32 (prevId ql k) ∧ wr = w3) (fun _ x _ => m3 - (intOf x).toNat)
  case atStart => exact ⟨0, by omega, rfl, rfl, rfl⟩
  case round =>
    obtain ⟨k, hk, rfl, rfl, rfl⟩ := hrel
    by_cases hkn : k < m3
    · have i1 : (0 : Int) ≤ (k : Int) := by omega
      have i2 : (k : Int) < (m3 : Int) := by omega
      obtain ⟨x, hx⟩ : ∃ x, ql[k]? = some x := ⟨_, List.getElem?_eq_getElem (by have := HM3.out; omega)⟩
      obtain ⟨ga, hA⟩ : ∃ g, Au = some ⟨g, 0, none⟩ := by
        obtain ⟨g, c, hv, _⟩ := HU.out.form (by omega)
        injection hv with e
        exact ⟨g, e⟩
      subst hA
      obtain ⟨a0, a1, a2, a3, a4⟩ := own_reqCells HU.out hx
      have hlt : prevId ql k < x.id := prev_lt HRQ.out hx
      have hnx : prevId ql (k + 1) = x.id := by simp [prevId, List.getD_eq_getElem?_getD, hx]
      have HNX := Lib.hid hnx
      obtain ⟨pv, hpv⟩ : ∃ pv, pv = prevId ql k := ⟨_, rfl⟩
      rw [← hpv] at hlt ⊢
      have hle : ¬ x.id ≤ pv := by omega
      clear hx a1 a2 a3 a4 hnx hpv
      go_wp2
      go_roundw
      case rel => exact ⟨k + 1, by omega, by go_num, by rw [HNX.out], trivial⟩
      case measure => simp [intOf]; omega
    · have i2 : ¬ ((k : Int) < (m3 : Int)) := by omega
      have hkm : k = m3 := by omega
      subst hkm
      have hple : prevId ql k ≤ S.last := prev_le HRQ.out (by rw [HM3.out]; exact Nat.le_refl _)
      obtain ⟨pv, hpv⟩ : ∃ pv, pv = prevId ql k := ⟨_, rfl⟩
      rw [← hpv] at hple ⊢
      have c0 := (HBK.out H3.out.keep).cell_of (i := 0) rfl
      have b44 := HB44.out (HLV2.out H3.out).keep
      have e0 := b44.cell_of (i := 0) rfl
      have e1 := b44.cell_of (i := 1) rfl
      have e2 := b44.cell_of (i := 2) rfl
      have e3 := b44.cell_of (i := 3) rfl
      have e4 := b44.cell_of (i := 4) rfl
      have HK := Lib.hid (HASK.out H3.out HLA.out)
      have hcs := HCS.out HINV.out
      have HPL := Lib.hid hple
      have hq : ql.length = S.q.length := by rw [HQL.out]
      have HLN : Hid (k = S.q.length) := by rw [HM3.out]; exact hq
      obtain ⟨er, her⟩ : ∃ er, er = askE S ⟨rid, rwr, rsec, rfr, rown⟩ := ⟨_, rfl⟩
      obtain ⟨en, hen⟩ : ∃ en, en = askN S ⟨rid, rwr, rsec, rfr, rown⟩ := ⟨_, rfl⟩
      obtain ⟨S', hS'⟩ : ∃ S', S' = askS S ⟨rid, rwr, rsec, rfr, rown⟩ := ⟨_, rfl⟩
      rw [← her, ← hen, ← hS'] at hcs HK
      have HCC := Lib.hid hcs
      clear b44 hpv her hen hS' hcs hple hq
      go_wp2_with fail
      refine HK.out.mono ?_
      rintro e w4 ⟨rfl, h4⟩
      have H4 := Lib.hid h4
      replace c0 := (HBK.out H4.out.keep).cell_of (i := 0) rfl
      have HW : Hid (Calls Try.prog 14 #[.pointer (some ⟨D, 0, none⟩)] w4 fun e w' => (∃ u, e = .returned u ∧ Reqs w' 0 u S'.q) ∧ Keep none_ w4 w') := H4.out.read (P := fun e w' => ∃ u, e = .returned u ∧ Reqs w' 0 u S'.q) (fun F v sb fb T h => by
        refine (waiting_any h).mono ?_
        rintro e w' ⟨u, rfl, ho, hk⟩
        exact ⟨⟨u, rfl, ownsRow_base ho (Nat.zero_le _)⟩, hk⟩)
      clear h4 HK e0 e1 e2 e3 e4
      rcases HCC.out with ⟨h1, h2, h3, h5⟩ | ⟨h1, h2, h3⟩ | ⟨h1, h2, h3, h5⟩
      · subst h1
        have hgt : pv < en := by have := HPL.out; omega
        have hk8 : (k : Int) < 8 := by have := HLN.out; omega
        have hl' : (S'.q.length : Int) = (k : Int) + 1 := by have := HLN.out; omega
        clear h2 h3 h5
        go_wp2_with fail
        refine HW.out.mono ?_
        rintro e w5 ⟨⟨u2, rfl, hu2⟩, hk5⟩
        obtain ⟨Au2, cu2, rfl, _, _⟩ := own_form hu2
        have HFIN := Lib.hid (HKA.out.trans (HLV.out (H4.out.keep0 hk5)).keep)
        clear hu2 hk5
        go_wp2
        go_ret
        exact ⟨rfl, HFIN.out⟩
      · subst h1 h2 h3
        have hl' : (S'.q.length : Int) = (k : Int) := by have := HLN.out; omega
        go_wp2_with fail
        refine HW.out.mono ?_
        rintro e w5 ⟨⟨u2, rfl, hu2⟩, hk5⟩
        obtain ⟨Au2, cu2, rfl, _, _⟩ := own_form hu2
        have HFIN := Lib.hid (HKA.out.trans (HLV.out (H4.out.keep0 hk5)).keep)
        clear hu2 hk5
        go_wp2
        go_ret
        exact ⟨rfl, HFIN.out⟩
      · subst h1 h2 h3
        have hl' : (S'.q.length : Int) = (k : Int) := by have := HLN.out; omega
        have hk8 : (k : Int) = 8 := by have := HLN.out; omega
        go_wp2_with fail
        refine HW.out.mono ?_
        rintro e w5 ⟨⟨u2, rfl, hu2⟩, hk5⟩
        obtain ⟨Au2, cu2, rfl, _, _⟩ := own_form hu2
        have HFIN := Lib.hid (HKA.out.trans (HLV.out (H4.out.keep0 hk5)).keep)
        clear hu2 hk5
        go_wp2
        go_ret
        exact ⟨rfl, HFIN.out⟩
end Go.Proofs.Ytjlenocmfeggdaa
