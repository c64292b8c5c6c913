/- The document's Cancel and Drop. -/
import Derived.Test.YtjlenocmfeggdaaRefE
import Derived.Test.YtjlenocmfeggdaaImpM
namespace Go.Proofs.Ytjlenocmfeggdaa
open Go.RowKit
attribute [local go_sem] cell_alloc_some frozen_alloc_some
theorem own_own {w : World} {b1 b2 e1 e2 s1 s2 n1 n2 g : Nat} {v1 v2 : Value} {xs ys : List Value} (h1 : w.ownsRow b1 e1 s1 v1 n1 xs) (h2 : w.ownsRow b2 e2 s2 v2 n2 ys) (hne : e1 ≠ e2) (hg : v1.ownBlock = some g) : v2.ownBlock ≠ some g := by
  rcases h1.2 with ⟨rfl, _⟩ | ⟨g', cap, cur, rfl, _, hh, _⟩
  · cases hg
  · have e : g' = g := by injection hg
    subst e
    have hb : Blk w g' e1 cur.toList := by unfold Blk; simpa using hh
    exact own_ne h2 hb (Ne.symm hne)
section
variable {w w' : World} {R M : Nat} {S : St} {v sv bv : Value} {iv : Nat → Value} {W F : Nat → Prop}
set_option maxRecDepth 100000 in
set_option maxHeartbeats 4000000 in
theorem without_frame (h : RepR w R M S v sv bv iv W F) (f : Int) (hf : 0 ≤ f) :
    Calls Try.prog 75 #[.pointer (some ⟨R, 0, none⟩), .int .i64 f, .int .u8 0] w fun e w' => ∃ u, e = .returned u ∧ w'.ownsRow w.heap.size 42 1 u (outL S (ofFrame f)).length ((outL S (ofFrame f)).map u32v) ∧ (∃ v', RepR w' R M (outS S (ofFrame f)) v' sv bv iv W (ext F w w')) ∧ Keep (· = R) w w' := by
  obtain ⟨i0, hi0, hz0, hz1, hz2⟩ := info_parts info44
  obtain ⟨i1, hi1, hy0, hy1, hy2⟩ := info_parts info42
  obtain ⟨A, cap, rfl⟩ := h.rlenQ
  have HH := Lib.hid h
  have HD := Lib.hid h.disk
  have hq8 := h.inv.q8
  have hRl := h.disk.lt
  generalize hP : (ofFrame f) = p
  have HP := Lib.hid hP
  clear hP h
  obtain ⟨n, hn⟩ : ∃ n, n = S.q.length := ⟨_, rfl⟩
  rw [← hn] at HH HD hq8
  have HN := Lib.hid hn
  clear hn
  have HQ : Hid (w.ownsRow 0 44 5 (.slice A n cap) n (flatQ S.q)) := by have := HH.out.que; rw [← HN.out] at this; exact this
  have c1 := HD.out.cell_of (i := 1) rfl
  go_enter Try.func75, Try.ntmps75
  go_wp2_with fail
  go_loopw [7, 8, 9] (fun vo vl vi wr => ∃ k : Nat, k ≤ n ∧ vi = .int .i64 k ∧ Hid (wr.ownsRow w.heap.size 42 1 vo (((S.q.take k).filter p).map (·.id)).length ((((S.q.take k).filter p).map (·.id)).map u32v)) ∧ Hid (wr.ownsRow w.heap.size 44 5 vl ((S.q.take k).filter fun r => !p r).length (flatQ ((S.q.take k).filter fun r => !p r))) ∧ Hid (Keep none_ w wr)) (fun _ _ vi _ => 8 - (intOf vi).toNat)
  case atStart => exact ⟨0, by omega, rfl, own_nil _ _ _ _, own_nil _ _ _ _, Keep.refl _ _⟩
  case round =>
    obtain ⟨k, hk, rfl, hO, hL, hK⟩ := hrel
    have d1 := hK.out.cellS c1 id
    by_cases hkn : k < n
    · obtain ⟨g, hA⟩ : ∃ g, A = some ⟨g, 0, none⟩ := by
        obtain ⟨g, c, hv, _⟩ := HQ.out.form (by omega)
        injection hv with e
        exact ⟨g, e⟩
      subst hA
      have k0 : (0 : Int) ≤ (k : Int) := by omega
      have k1 : (k : Int) < (n : Int) := by omega
      obtain ⟨r, hr⟩ : ∃ r, S.q[k]? = some r := ⟨_, List.getElem?_eq_getElem (by have := HN.out; omega)⟩
      obtain ⟨q0, q1, q2, q3, q4⟩ := own_reqCells HQ.out hr
      have e0 := hK.out.cellS q0 id
      have e1 := hK.out.cellS q1 id
      have e2 := hK.out.cellS q2 id
      have e3 := hK.out.cellS q3 id
      have e4 := hK.out.cellS q4 id
      have ht : S.q.take (k + 1) = S.q.take k ++ [r] := by rw [List.take_add_one, hr]; rfl
      have hln : (S.q.take k).length ≤ 8 := by have := List.length_take_le k S.q; omega
      have hl1 : (((S.q.take k).filter p).map (·.id)).length ≤ 8 := by rw [List.length_map]; have := List.length_filter_le p (S.q.take k); omega
      have hl2 : ((S.q.take k).filter fun r => !p r).length ≤ 8 := by have := List.length_filter_le (fun r => !p r) (S.q.take k); omega
      clear hr q0 q1 q2 q3 q4
      cases hpr : p r with
      | true =>
        have n1 : ((S.q.take (k + 1)).filter p).map (·.id) = ((S.q.take k).filter p).map (·.id) ++ [r.id] := by rw [ht, List.filter_append, List.map_append]; simp [hpr]
        have n2 : ((S.q.take (k + 1)).filter fun r => !p r) = (S.q.take k).filter fun r => !p r := by rw [ht, List.filter_append]; simp [hpr]
        have N1 := Lib.hid n1
        have N2 := Lib.hid n2
        have T1 : Hid (ofFrame f = p) := HP.out
        have hte : (r.fr == f) = true := by have := HP.out; subst this; simpa [ofFrame, ofOwner] using hpr
        clear n1 n2 ht hpr
        obtain ⟨rid, rwr, rsec, rfr, rown⟩ := r
        simp only at hte e0 e1 e2 e3 e4 N1
        have HOA := Lib.hid (ownsRow_keep hO.out ((Keep.refl none_ wr).alloc (.cells #[.int .u32 rid] 42)) (fun _ _ => id))
        have HLA := Lib.hid (ownsRow_keep hL.out ((Keep.refl none_ wr).alloc (.cells #[.int .u32 rid] 42)) (fun _ _ => id))
        have HKA := Lib.hid (hK.out.trans ((Keep.refl none_ wr).alloc (.cells #[.int .u32 rid] 42)))
        have HNB : Hid (Blk (wr.alloc (.cells #[.int .u32 rid] 42)) wr.heap.size 42 [.int .u32 rid]) := Blk.new wr 42 [.int .u32 rid]
        go_wp2_with (at_builtin; refine wpList_append_gen rfl _ _ 40 rfl w.heap.size 42 i1 (.int .u32 0) 1 4 Try.underlying40 hi1 hy0 hy1 hy2 rfl (by decide) _ _ _ rfl HOA.out (some ⟨wr.heap.size, 0, none⟩) 1 1 [.int .u32 rid] rfl (.inr ⟨_, rfl, rfl, HNB.out.news⟩) (by simp [Value.oneCell']) (by unfold maxLen; omega) (by omega) HKA.out.size ?_; intro v' V2 hown hg hob; have hkg := Keep.of_grown hg; have HL2 := Lib.hid (ownsRow_keep HLA.out hkg (fun b hb e => own_own HLA.out HOA.out (by decide) hb e)); have HK2 := Lib.hid (HKA.out.thenF hkg (fun x hx => .inr (ownsRow_lt HOA.out hx).1)); have HO2 := Lib.hid hown; clear hown hg hob hkg)
        go_roundw
        case rel => exact ⟨k + 1, by omega, by go_num, by rw [N1.out, List.map_append, List.length_append]; exact HO2, by rw [N2.out]; exact HL2, HK2⟩
        case measure => simp [intOf]; omega
      | false =>
        have n1 : ((S.q.take (k + 1)).filter p).map (·.id) = ((S.q.take k).filter p).map (·.id) := by rw [ht, List.filter_append, List.map_append]; simp [hpr]
        have n2 : ((S.q.take (k + 1)).filter fun r => !p r) = ((S.q.take k).filter fun r => !p r) ++ [r] := by rw [ht, List.filter_append]; simp [hpr]
        have N1 := Lib.hid n1
        have N2 := Lib.hid n2
        have hte : (r.fr == f) = false := by have := HP.out; subst this; simpa [ofFrame, ofOwner] using hpr
        clear n1 n2 ht hpr
        obtain ⟨rid, rwr, rsec, rfr, rown⟩ := r
        simp only at hte e0 e1 e2 e3 e4
        have HOA := Lib.hid (ownsRow_keep hO.out ((Keep.refl none_ wr).alloc (.cells #[.int .u32 rid, .bool rwr, .int .i64 rsec, .int .i64 rfr, .int .u8 rown] 44)) (fun _ _ => id))
        have HLA := Lib.hid (ownsRow_keep hL.out ((Keep.refl none_ wr).alloc (.cells #[.int .u32 rid, .bool rwr, .int .i64 rsec, .int .i64 rfr, .int .u8 rown] 44)) (fun _ _ => id))
        have HKA := Lib.hid (hK.out.trans ((Keep.refl none_ wr).alloc (.cells #[.int .u32 rid, .bool rwr, .int .i64 rsec, .int .i64 rfr, .int .u8 rown] 44)))
        have HNB : Hid (Blk (wr.alloc (.cells #[.int .u32 rid, .bool rwr, .int .i64 rsec, .int .i64 rfr, .int .u8 rown] 44)) wr.heap.size 44 [.int .u32 rid, .bool rwr, .int .i64 rsec, .int .i64 rfr, .int .u8 rown]) := Blk.new wr 44 [.int .u32 rid, .bool rwr, .int .i64 rsec, .int .i64 rfr, .int .u8 rown]
        go_wp2_with (at_builtin; refine wpList_append_gen rfl _ _ 38 rfl w.heap.size 44 i0 (.agg #[.int .u32 0, .bool false, .int .i64 0, .int .i64 0, .int .u8 0]) 5 32 Try.underlying38 hi0 hz0 hz1 hz2 rfl (by decide) _ _ _ rfl HLA.out (some ⟨wr.heap.size, 0, none⟩) 1 1 [.int .u32 rid, .bool rwr, .int .i64 rsec, .int .i64 rfr, .int .u8 rown] rfl (.inr ⟨_, rfl, rfl, HNB.out.news⟩) (by simp [Value.oneCell']) (by unfold maxLen; omega) (by omega) HKA.out.size ?_; intro v' V2 hown hg hob; have hkg := Keep.of_grown hg; have HL2 := Lib.hid (ownsRow_keep HOA.out hkg (fun b hb e => own_own HOA.out HLA.out (by decide) hb e)); have HK2 := Lib.hid (HKA.out.thenF hkg (fun x hx => .inr (ownsRow_lt HLA.out hx).1)); have HO2 := Lib.hid hown; clear hown hg hob hkg)
        go_roundw
        case rel => exact ⟨k + 1, by omega, by go_num, by rw [N1.out]; exact HL2, by rw [N2.out, flatQ_append, List.length_append]; simpa [flatQ, reqc] using HO2, HK2⟩
        case measure => simp [intOf]; omega
    · have k1 : ¬ ((k : Int) < (n : Int)) := by omega
      have ht : S.q.take k = S.q := List.take_of_length_le (by have := HN.out; omega)
      have HL3 := hL.out
      have HO3 := hO.out
      rw [ht] at HL3 HO3
      obtain ⟨A2, c2, rfl, _, _⟩ := own_form HL3
      have dD := HD.out.keep hK.out id
      have y1 := dD.frozen 1
      have kD : Keep (· = R) wr (wr.setCell ⟨R, 1, none⟩ (.slice A2 (S.q.filter fun r => !p r).length c2)) := Keep.setCell (S := (· = R)) (p := ⟨R, 1, none⟩) (Keep.refl _ wr) (.inl rfl) _
      have kW : Keep (· = R) w (wr.setCell ⟨R, 1, none⟩ (.slice A2 (S.q.filter fun r => !p r).length c2)) := (hK.out.mono (fun _ hx => hx.elim)).trans kD
      have HR : Hid (RepR (wr.setCell ⟨R, 1, none⟩ (.slice A2 (S.q.filter fun r => !p r).length c2)) R M (outS S p) (.slice A2 (S.q.filter fun r => !p r).length c2) sv bv iv W (ext F w (wr.setCell ⟨R, 1, none⟩ (.slice A2 (S.q.filter fun r => !p r).length c2)))) :=
        HH.out.qset kW (HH.out.inv.out p) rfl rfl rfl rfl (dD.set_ 1 _) (ownsRow_base (ownsRow_keep HL3 kD (fun b hb e => own_ne HL3 dD (by decide) (by rw [hb, e]))) (Nat.zero_le _)) (fun g hg => .inr (ownsRow_lt HL3 hg).1)
      have HU := Lib.hid (show World.ownsRow _ _ _ _ _ (outL S p).length ((outL S p).map u32v) from ownsRow_keep HO3 kD (fun b hb e => own_ne HO3 dD (by decide) (by rw [hb, e])))
      have HKW := Lib.hid kW
      rw [ht] at *
      clear HL3 HO3 dD kD kW
      generalize (S.q.filter fun r => !p r).length = mm at *
      go_wp2
      go_ret
      exact ⟨_, rfl, HU.out, ⟨_, HR.out⟩, HKW.out⟩
set_option maxRecDepth 100000 in
set_option maxHeartbeats 4000000 in
theorem without_owner (h : RepR w R M S v sv bv iv W F) (o : Int) :
    Calls Try.prog 75 #[.pointer (some ⟨R, 0, none⟩), .int .i64 (-1), .int .u8 o] w fun e w' => ∃ u, e = .returned u ∧ w'.ownsRow w.heap.size 42 1 u (outL S (ofOwner o)).length ((outL S (ofOwner o)).map u32v) ∧ (∃ v', RepR w' R M (outS S (ofOwner o)) v' sv bv iv W (ext F w w')) ∧ Keep (· = R) w w' := by
  obtain ⟨i0, hi0, hz0, hz1, hz2⟩ := info_parts info44
  obtain ⟨i1, hi1, hy0, hy1, hy2⟩ := info_parts info42
  obtain ⟨A, cap, rfl⟩ := h.rlenQ
  have HH := Lib.hid h
  have HD := Lib.hid h.disk
  have hq8 := h.inv.q8
  have hRl := h.disk.lt
  generalize hP : (ofOwner o) = p
  have HP := Lib.hid hP
  clear hP h
  obtain ⟨n, hn⟩ : ∃ n, n = S.q.length := ⟨_, rfl⟩
  rw [← hn] at HH HD hq8
  have HN := Lib.hid hn
  clear hn
  have HQ : Hid (w.ownsRow 0 44 5 (.slice A n cap) n (flatQ S.q)) := by have := HH.out.que; rw [← HN.out] at this; exact this
  have c1 := HD.out.cell_of (i := 1) rfl
  go_enter Try.func75, Try.ntmps75
  go_wp2_with fail
  go_loopw [7, 8, 9] (fun vo vl vi wr => ∃ k : Nat, k ≤ n ∧ vi = .int .i64 k ∧ Hid (wr.ownsRow w.heap.size 42 1 vo (((S.q.take k).filter p).map (·.id)).length ((((S.q.take k).filter p).map (·.id)).map u32v)) ∧ Hid (wr.ownsRow w.heap.size 44 5 vl ((S.q.take k).filter fun r => !p r).length (flatQ ((S.q.take k).filter fun r => !p r))) ∧ Hid (Keep none_ w wr)) (fun _ _ vi _ => 8 - (intOf vi).toNat)
  case atStart => exact ⟨0, by omega, rfl, own_nil _ _ _ _, own_nil _ _ _ _, Keep.refl _ _⟩
  case round =>
    obtain ⟨k, hk, rfl, hO, hL, hK⟩ := hrel
    have d1 := hK.out.cellS c1 id
    by_cases hkn : k < n
    · obtain ⟨g, hA⟩ : ∃ g, A = some ⟨g, 0, none⟩ := by
        obtain ⟨g, c, hv, _⟩ := HQ.out.form (by omega)
        injection hv with e
        exact ⟨g, e⟩
      subst hA
      have k0 : (0 : Int) ≤ (k : Int) := by omega
      have k1 : (k : Int) < (n : Int) := by omega
      obtain ⟨r, hr⟩ : ∃ r, S.q[k]? = some r := ⟨_, List.getElem?_eq_getElem (by have := HN.out; omega)⟩
      obtain ⟨q0, q1, q2, q3, q4⟩ := own_reqCells HQ.out hr
      have e0 := hK.out.cellS q0 id
      have e1 := hK.out.cellS q1 id
      have e2 := hK.out.cellS q2 id
      have e3 := hK.out.cellS q3 id
      have e4 := hK.out.cellS q4 id
      have ht : S.q.take (k + 1) = S.q.take k ++ [r] := by rw [List.take_add_one, hr]; rfl
      have hln : (S.q.take k).length ≤ 8 := by have := List.length_take_le k S.q; omega
      have hl1 : (((S.q.take k).filter p).map (·.id)).length ≤ 8 := by rw [List.length_map]; have := List.length_filter_le p (S.q.take k); omega
      have hl2 : ((S.q.take k).filter fun r => !p r).length ≤ 8 := by have := List.length_filter_le (fun r => !p r) (S.q.take k); omega
      clear hr q0 q1 q2 q3 q4
      cases hpr : p r with
      | true =>
        have n1 : ((S.q.take (k + 1)).filter p).map (·.id) = ((S.q.take k).filter p).map (·.id) ++ [r.id] := by rw [ht, List.filter_append, List.map_append]; simp [hpr]
        have n2 : ((S.q.take (k + 1)).filter fun r => !p r) = (S.q.take k).filter fun r => !p r := by rw [ht, List.filter_append]; simp [hpr]
        have N1 := Lib.hid n1
        have N2 := Lib.hid n2
        have T1 : Hid (ofOwner o = p) := HP.out
        have hte : (r.own == o) = true := by have := HP.out; subst this; simpa [ofFrame, ofOwner] using hpr
        clear n1 n2 ht hpr
        obtain ⟨rid, rwr, rsec, rfr, rown⟩ := r
        simp only at hte e0 e1 e2 e3 e4 N1
        have HOA := Lib.hid (ownsRow_keep hO.out ((Keep.refl none_ wr).alloc (.cells #[.int .u32 rid] 42)) (fun _ _ => id))
        have HLA := Lib.hid (ownsRow_keep hL.out ((Keep.refl none_ wr).alloc (.cells #[.int .u32 rid] 42)) (fun _ _ => id))
        have HKA := Lib.hid (hK.out.trans ((Keep.refl none_ wr).alloc (.cells #[.int .u32 rid] 42)))
        have HNB : Hid (Blk (wr.alloc (.cells #[.int .u32 rid] 42)) wr.heap.size 42 [.int .u32 rid]) := Blk.new wr 42 [.int .u32 rid]
        go_wp2_with (at_builtin; refine wpList_append_gen rfl _ _ 40 rfl w.heap.size 42 i1 (.int .u32 0) 1 4 Try.underlying40 hi1 hy0 hy1 hy2 rfl (by decide) _ _ _ rfl HOA.out (some ⟨wr.heap.size, 0, none⟩) 1 1 [.int .u32 rid] rfl (.inr ⟨_, rfl, rfl, HNB.out.news⟩) (by simp [Value.oneCell']) (by unfold maxLen; omega) (by omega) HKA.out.size ?_; intro v' V2 hown hg hob; have hkg := Keep.of_grown hg; have HL2 := Lib.hid (ownsRow_keep HLA.out hkg (fun b hb e => own_own HLA.out HOA.out (by decide) hb e)); have HK2 := Lib.hid (HKA.out.thenF hkg (fun x hx => .inr (ownsRow_lt HOA.out hx).1)); have HO2 := Lib.hid hown; clear hown hg hob hkg)
        go_roundw
        case rel => exact ⟨k + 1, by omega, by go_num, by rw [N1.out, List.map_append, List.length_append]; exact HO2, by rw [N2.out]; exact HL2, HK2⟩
        case measure => simp [intOf]; omega
      | false =>
        have n1 : ((S.q.take (k + 1)).filter p).map (·.id) = ((S.q.take k).filter p).map (·.id) := by rw [ht, List.filter_append, List.map_append]; simp [hpr]
        have n2 : ((S.q.take (k + 1)).filter fun r => !p r) = ((S.q.take k).filter fun r => !p r) ++ [r] := by rw [ht, List.filter_append]; simp [hpr]
        have N1 := Lib.hid n1
        have N2 := Lib.hid n2
        have hte : (r.own == o) = false := by have := HP.out; subst this; simpa [ofFrame, ofOwner] using hpr
        clear n1 n2 ht hpr
        obtain ⟨rid, rwr, rsec, rfr, rown⟩ := r
        simp only at hte e0 e1 e2 e3 e4
        have HOA := Lib.hid (ownsRow_keep hO.out ((Keep.refl none_ wr).alloc (.cells #[.int .u32 rid, .bool rwr, .int .i64 rsec, .int .i64 rfr, .int .u8 rown] 44)) (fun _ _ => id))
        have HLA := Lib.hid (ownsRow_keep hL.out ((Keep.refl none_ wr).alloc (.cells #[.int .u32 rid, .bool rwr, .int .i64 rsec, .int .i64 rfr, .int .u8 rown] 44)) (fun _ _ => id))
        have HKA := Lib.hid (hK.out.trans ((Keep.refl none_ wr).alloc (.cells #[.int .u32 rid, .bool rwr, .int .i64 rsec, .int .i64 rfr, .int .u8 rown] 44)))
        have HNB : Hid (Blk (wr.alloc (.cells #[.int .u32 rid, .bool rwr, .int .i64 rsec, .int .i64 rfr, .int .u8 rown] 44)) wr.heap.size 44 [.int .u32 rid, .bool rwr, .int .i64 rsec, .int .i64 rfr, .int .u8 rown]) := Blk.new wr 44 [.int .u32 rid, .bool rwr, .int .i64 rsec, .int .i64 rfr, .int .u8 rown]
        go_wp2_with (at_builtin; refine wpList_append_gen rfl _ _ 38 rfl w.heap.size 44 i0 (.agg #[.int .u32 0, .bool false, .int .i64 0, .int .i64 0, .int .u8 0]) 5 32 Try.underlying38 hi0 hz0 hz1 hz2 rfl (by decide) _ _ _ rfl HLA.out (some ⟨wr.heap.size, 0, none⟩) 1 1 [.int .u32 rid, .bool rwr, .int .i64 rsec, .int .i64 rfr, .int .u8 rown] rfl (.inr ⟨_, rfl, rfl, HNB.out.news⟩) (by simp [Value.oneCell']) (by unfold maxLen; omega) (by omega) HKA.out.size ?_; intro v' V2 hown hg hob; have hkg := Keep.of_grown hg; have HL2 := Lib.hid (ownsRow_keep HOA.out hkg (fun b hb e => own_own HOA.out HLA.out (by decide) hb e)); have HK2 := Lib.hid (HKA.out.thenF hkg (fun x hx => .inr (ownsRow_lt HLA.out hx).1)); have HO2 := Lib.hid hown; clear hown hg hob hkg)
        go_roundw
        case rel => exact ⟨k + 1, by omega, by go_num, by rw [N1.out]; exact HL2, by rw [N2.out, flatQ_append, List.length_append]; simpa [flatQ, reqc] using HO2, HK2⟩
        case measure => simp [intOf]; omega
    · have k1 : ¬ ((k : Int) < (n : Int)) := by omega
      have ht : S.q.take k = S.q := List.take_of_length_le (by have := HN.out; omega)
      have HL3 := hL.out
      have HO3 := hO.out
      rw [ht] at HL3 HO3
      obtain ⟨A2, c2, rfl, _, _⟩ := own_form HL3
      have dD := HD.out.keep hK.out id
      have y1 := dD.frozen 1
      have kD : Keep (· = R) wr (wr.setCell ⟨R, 1, none⟩ (.slice A2 (S.q.filter fun r => !p r).length c2)) := Keep.setCell (S := (· = R)) (p := ⟨R, 1, none⟩) (Keep.refl _ wr) (.inl rfl) _
      have kW : Keep (· = R) w (wr.setCell ⟨R, 1, none⟩ (.slice A2 (S.q.filter fun r => !p r).length c2)) := (hK.out.mono (fun _ hx => hx.elim)).trans kD
      have HR : Hid (RepR (wr.setCell ⟨R, 1, none⟩ (.slice A2 (S.q.filter fun r => !p r).length c2)) R M (outS S p) (.slice A2 (S.q.filter fun r => !p r).length c2) sv bv iv W (ext F w (wr.setCell ⟨R, 1, none⟩ (.slice A2 (S.q.filter fun r => !p r).length c2)))) :=
        HH.out.qset kW (HH.out.inv.out p) rfl rfl rfl rfl (dD.set_ 1 _) (ownsRow_base (ownsRow_keep HL3 kD (fun b hb e => own_ne HL3 dD (by decide) (by rw [hb, e]))) (Nat.zero_le _)) (fun g hg => .inr (ownsRow_lt HL3 hg).1)
      have HU := Lib.hid (show World.ownsRow _ _ _ _ _ (outL S p).length ((outL S p).map u32v) from ownsRow_keep HO3 kD (fun b hb e => own_ne HO3 dD (by decide) (by rw [hb, e])))
      have HKW := Lib.hid kW
      rw [ht] at *
      clear HL3 HO3 dD kD kW
      generalize (S.q.filter fun r => !p r).length = mm at *
      go_wp2
      go_ret
      exact ⟨_, rfl, HU.out, ⟨_, HR.out⟩, HKW.out⟩
end
end Go.Proofs.Ytjlenocmfeggdaa
