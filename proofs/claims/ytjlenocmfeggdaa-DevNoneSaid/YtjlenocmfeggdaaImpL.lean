/- The closures of Cancel and Drop, and out's. -/
import Derived.Test.YtjlenocmfeggdaaImpK
namespace Go.Proofs.Ytjlenocmfeggdaa
open Go.RowKit
attribute [local go_sem] cell_alloc_some frozen_alloc_some
def u32v (n : Int) : Value := .int .u32 n
theorem u32_one (l : List Int) : ∀ u ∈ l.map u32v, u.oneCell' = true := by
  intro u hu
  obtain ⟨c, _, rfl⟩ := List.mem_map.1 hu
  rfl
def such (fid c : Nat) : Value := .func (.func fid) #[] #[.pointer (some ⟨c, 0, none⟩)]
/-- what the closure stands on: 'such' at cs, what it captured at c, the numbers so far at ci -/
structure Env (base fid c tc cs ci : Nat) (x : Value) (W : World) (ids : List Int) : Prop where
  s : Blk W cs 94 [such fid c]
  x : Blk W c tc [x]
  n : ∃ v, Blk W ci 40 [v] ∧ W.ownsRow base 42 1 v ids.length (ids.map u32v)
  hc : c < base
  hs : base ≤ cs
  hi : base ≤ ci
  ht : tc ≠ 44 ∧ tc ≠ 42
section
variable {base fid c tc cs ci : Nat} {x : Value} {W W' : World} {ids : List Int}
theorem Env.keep {G : Nat → Prop} (h : Env base fid c tc cs ci x W ids) (hk : Keep G W W') (hG : ∀ b, base ≤ b → ¬ G b) (hc : ¬ G c) : Env base fid c tc cs ci x W' ids := by
  obtain ⟨v, h1, h2⟩ := h.n
  exact ⟨h.s.keep hk (hG _ h.hs), h.x.keep hk hc, ⟨v, h1.keep hk (hG _ h.hi), ownsRow_keep h2 hk (fun g hg => hG g (ownsRow_lt h2 hg).1)⟩, h.hc, h.hs, h.hi, h.ht⟩
theorem Env.keep0 (h : Env base fid c tc cs ci x W ids) (hk : Keep none_ W W') : Env base fid c tc cs ci x W' ids := h.keep hk (fun _ _ => id) id
set_option maxRecDepth 100000 in
theorem drop1_any (W : World) (c : Nat) (o : Int) (hc : Blk W c 5 [.int .u8 o]) (r : Req) :
    Calls Try.prog 41 #[.agg (reqc r).toArray, .pointer (some ⟨c, 0, none⟩)] W fun e w' => e = .returned (.bool (ofOwner o r)) ∧ Keep none_ W w' := by
  have c0 := hc.cell_of (i := 0) rfl
  obtain ⟨rid, rwr, rsec, rfr, rown⟩ := r
  unfold reqc ofOwner
  clear hc
  go_enter Try.func41, Try.ntmps41
  go_wp2
  go_ret
  exact ⟨rfl, (Keep.refl _ W).alloc _⟩
set_option maxRecDepth 100000 in
theorem cancel1_any (W : World) (c : Nat) (f : Int) (hc : Blk W c 3 [.int .i64 f]) (r : Req) :
    Calls Try.prog 46 #[.agg (reqc r).toArray, .pointer (some ⟨c, 0, none⟩)] W fun e w' => e = .returned (.bool (ofFrame f r)) ∧ Keep none_ W w' := by
  have c0 := hc.cell_of (i := 0) rfl
  obtain ⟨rid, rwr, rsec, rfr, rown⟩ := r
  unfold reqc ofFrame
  clear hc
  go_enter Try.func46, Try.ntmps46
  go_wp2
  go_ret
  exact ⟨rfl, (Keep.refl _ W).alloc _⟩
theorem info42 : (Try.prog.info? 42).map (fun i => (i.zero, i.size, i.bytes)) = some (some (.int .u32 0), 1, 4) := by kernel_rfl
/-- blocks that hold no number and no list of numbers are as they were -/
def KeepT (W W' : World) : Prop := ∀ (b t : Nat) (cs : List Value), t ≠ 40 → t ≠ 42 → Blk W b t cs → Blk W' b t cs
/-- 'such' says p -/
def Says (fid c tc : Nat) (x : Value) (p : Req → Bool) : Prop := ∀ (W : World), Blk W c tc [x] → ∀ r, Calls Try.prog fid #[.agg (reqc r).toArray, .pointer (some ⟨c, 0, none⟩)] W fun e w' => e = .returned (.bool (p r)) ∧ Keep none_ W w'
theorem call41 (xs : Array Value) (w : World) : (callFunc 41 xs).run Try.prog w = .ok (.enter 41 xs) w := by kernel_rfl
theorem call46 (xs : Array Value) (w : World) : (callFunc 46 xs).run Try.prog w = .ok (.enter 46 xs) w := by kernel_rfl
set_option maxRecDepth 100000 in
set_option maxHeartbeats 1000000 in
theorem out1_any {p : Req → Bool} (hcf : ∀ (xs : Array Value) (w : World), (callFunc fid xs).run Try.prog w = .ok (.enter fid xs) w) (hp : Says fid c tc x p) (h : Env base fid c tc cs ci x W ids) (hn : ids.length ≤ 1000) (hb : base ≤ W.heap.size) (r : Req) :
    Calls Try.prog 68 #[.agg (reqc r).toArray, .pointer (some ⟨cs, 0, none⟩), .pointer (some ⟨ci, 0, none⟩)] W fun e w' => e = .returned (.bool (p r)) ∧ Env base fid c tc cs ci x w' (ids ++ if p r = true then [r.id] else []) ∧ Keep (fun b => base ≤ b) W w' ∧ KeepT W w' := by
  have hk1 : Keep none_ W (W.alloc (.cells (reqc r).toArray 44)) := (Keep.refl _ W).alloc _
  have hbx : Blk (W.alloc (.cells (reqc r).toArray 44)) W.heap.size 44 (reqc r) := Blk.new W 44 (reqc r)
  have h1 := h.keep0 hk1
  have s0 := h1.s.cell_of (i := 0) rfl
  have H1 := Lib.hid (hp _ h1.x r)
  have HP := Lib.hid hp
  have HE := Lib.hid h1
  have HX := Lib.hid hbx
  have HKN := Lib.hid hk1
  have HK1 := Lib.hid (hk1.mono (S' := fun b => base ≤ b) (fun _ hx => hx.elim))
  have x0 := hbx.cell_of (i := 0) rfl
  have x1 := hbx.cell_of (i := 1) rfl
  have x2 := hbx.cell_of (i := 2) rfl
  have x3 := hbx.cell_of (i := 3) rfl
  have x4 := hbx.cell_of (i := 4) rfl
  have HB : Hid (base ≤ W.heap.size) := hb
  clear hp h h1 hk1 hbx
  unfold such at s0
  cases hpr : p r with
  | false =>
    rw [hpr] at H1
    have H2 : Hid (∀ {V : World}, Keep none_ (W.alloc (.cells (reqc r).toArray 44)) V → _) := fun hk => HP.out _ (HE.out.keep0 hk).x r
    have HPR := Lib.hid hpr
    clear hpr
    obtain ⟨rid, rwr, rsec, rfr, rown⟩ := r
    unfold reqc at *
    go_enter Try.func68, Try.ntmps68
    go_wp2_with fail
    refine H1.out.mono ?_
    rintro e V ⟨rfl, hk⟩
    have e1 := hk.cellS s0 id
    have y0 := hk.cellS x0 id
    have y1 := hk.cellS x1 id
    have y2 := hk.cellS x2 id
    have y3 := hk.cellS x3 id
    have y4 := hk.cellS x4 id
    have H3 := Lib.hid (H2.out hk)
    have HK := Lib.hid hk
    clear hk s0 x0 x1 x2 x3 x4
    go_wp2_with fail
    refine H3.out.mono ?_
    rintro e V2 ⟨rfl, hk2⟩
    rw [HPR.out]
    have HKK := Lib.hid (HK.out.trans hk2)
    clear hk2
    go_wp2
    go_ret
    exact ⟨rfl, by have := HE.out.keep0 HKK.out; simpa using this, HK1.out.thenF HKK.out (fun _ hx => hx.elim), fun b t cs _ _ hb => (hb.keep HKN.out id).keep HKK.out id⟩
  | true =>
    rw [hpr] at H1
    obtain ⟨i0, hi0, hz0, hz1, hz2⟩ := info_parts info42
    have HPR := Lib.hid hpr
    clear hpr
    obtain ⟨v, hv1, hv2⟩ := HE.out.n
    obtain ⟨A, cap, rfl, hc1, hc2⟩ := own_form hv2
    have HTC : Hid (tc ≠ 42) := HE.out.ht.2
    have hn1 : cs ≠ ci := HE.out.s.ne_ hv1 (by decide)
    have hn2 : ci ≠ cs := Ne.symm hn1
    have hn3 : W.heap.size ≠ ci := HX.out.ne_ hv1 (by decide)
    have hn4 : ci ≠ W.heap.size := Ne.symm hn3
    have HV1 := Lib.hid hv1
    have HV2 := Lib.hid hv2
    have HSZ : Hid ((W.alloc (.cells (reqc r).toArray 44)).heap.size = W.heap.size + 1) := by simp [Hid]
    obtain ⟨rid, rwr, rsec, rfr, rown⟩ := r
    unfold reqc at *
    clear hv1 hv2
    go_enter Try.func68, Try.ntmps68
    go_wp2_with fail
    refine H1.out.mono ?_
    rintro e V ⟨rfl, hk⟩
    have e1 := hk.cellS s0 id
    have y0 := hk.cellS x0 id
    have y1 := hk.cellS x1 id
    have y2 := hk.cellS x2 id
    have y3 := hk.cellS x3 id
    have y4 := hk.cellS x4 id
    have hs := hk.size
    rw [HSZ.out] at hs
    have v1 := HV1.out.keep hk id
    have d0 := v1.cell_of (i := 0) rfl
    have HV1' := Lib.hid v1
    have HV2' := Lib.hid (ownsRow_keep HV2.out hk (fun _ _ => id))
    have HE1 := Lib.hid (HE.out.keep0 hk)
    have HX1 := Lib.hid (HX.out.keep hk id)
    have HK := Lib.hid hk
    clear hk s0 x0 x1 x2 x3 x4 v1
    have HNB : Hid (Blk (V.alloc (.cells #[.int .u32 rid] 42)) V.heap.size 42 [.int .u32 rid]) := Blk.new V 42 [.int .u32 rid]
    have hka : Keep none_ V (V.alloc (.cells #[.int .u32 rid] 42)) := (Keep.refl _ V).alloc _
    have HOA := Lib.hid (ownsRow_keep HV2'.out hka (fun _ _ => id))
    have HKA := Lib.hid hka
    clear hka
    generalize hlen : ids.length = n at *
    have HLEN := Lib.hid hlen
    clear hlen
    go_wp2_with (at_builtin; refine wpList_append_gen rfl _ _ 40 rfl base 42 i0 (.int .u32 0) 1 4 Try.underlying40 hi0 hz0 hz1 hz2 rfl (by decide) (.slice A n cap) n (ids.map u32v) rfl HOA.out (some ⟨V.heap.size, 0, none⟩) 1 1 [.int .u32 rid] rfl (.inr ⟨_, rfl, rfl, HNB.out.news⟩) (by simp [Value.oneCell']) (by unfold maxLen; omega) (by omega) (by have := HB.out; simp; omega) ?_; intro v' V2 hown hg hob; obtain ⟨g2, cap2, rfl, hg2b, hg2l⟩ := hown.form (by omega); have hkg := Keep.of_grown hg; have hk2 : Keep (fun b => base ≤ b) V V2 := (HKA.out.mono (S' := fun b => base ≤ b) (fun _ hx => hx.elim)).thenF hkg (fun x hx => .inl (ownsRow_lt HV2'.out hx).1); have hnc : ∀ {b t : Nat} {cs : List Value}, Blk V b t cs → t ≠ 42 → Blk V2 b t cs := fun hb ht => (hb.keep HKA.out id).keep hkg (fun e => own_ne HOA.out (hb.keep HKA.out id) (Ne.symm ht) e); have w0 := (hnc HV1'.out (by decide)).cell_of (i := 0) rfl; have wz := (hnc HV1'.out (by decide)).frozen 0; have u0 : V2.cell? ⟨cs, 0, none⟩ = some (Value.func (.func fid) #[] #[.pointer (some ⟨c, 0, none⟩)]) := (hnc HE1.out.s (by decide)).cell_of (i := 0) rfl; have hX2 := hnc HX1.out (by decide); have HX2 := Lib.hid hX2; have HK2 := Lib.hid hk2; have HOWN := Lib.hid hown; have HS2 := Lib.hid (hnc HE1.out.s (by decide)); have HXX := Lib.hid (hnc HE1.out.x HTC.out); have HI2 := Lib.hid (hnc HV1'.out (by decide)); have HNC : Hid (∀ {b t : Nat} {cs : List Value}, Blk V b t cs → t ≠ 42 → Blk V2 b t cs) := hnc; have z0 := hX2.cell_of (i := 0) rfl; have z1 := hX2.cell_of (i := 1) rfl; have z2 := hX2.cell_of (i := 2) rfl; have z3 := hX2.cell_of (i := 3) rfl; have z4 := hX2.cell_of (i := 4) rfl; clear hX2 hk2 hown hob hg hkg hnc)
    have HE3 : Hid (Env base fid c tc cs ci x (V2.setCell ⟨ci, 0, none⟩ (.slice (some ⟨g2, 0, none⟩) (n + 1) cap2)) (ids ++ [rid])) := by
      have hkc : Keep (· = ci) V2 (V2.setCell ⟨ci, 0, none⟩ (.slice (some ⟨g2, 0, none⟩) (n + 1) cap2)) := Keep.setCell (S := (· = ci)) (p := ⟨ci, 0, none⟩) (Keep.refl _ V2) (.inl rfl) _
      refine ⟨HS2.out.keep hkc hn1, HXX.out.keep hkc (fun e => by have h1 := HE1.out.hc; have h2 := HE1.out.hi; omega), ⟨_, HI2.out.set_ 0 _, ?_⟩, HE1.out.hc, HE1.out.hs, HE1.out.hi, HE1.out.ht⟩
      have := ownsRow_keep HOWN.out hkc (fun g hg e => own_ne HOWN.out HI2.out (by decide) (by rw [hg, e]))
      rw [List.length_append, HLEN.out, List.map_append]
      exact this
    have HK3 : Hid (Keep (fun b => base ≤ b) W (V2.setCell ⟨ci, 0, none⟩ (.slice (some ⟨g2, 0, none⟩) (n + 1) cap2))) :=
      (((HK1.out.thenF HK.out (fun _ hx => hx.elim)).thenF HK2.out (fun _ hx => .inl hx)).setCell (p := ⟨ci, 0, none⟩) (.inl HE1.out.hi) _)
    have H4 := Lib.hid (HP.out _ HE3.out.x ⟨rid, rwr, rsec, rfr, rown⟩)
    refine H4.out.mono ?_
    rintro e V4 ⟨rfl, hk4⟩
    rw [HPR.out]
    have HF1 := Lib.hid (HE3.out.keep0 hk4)
    have HF2 := Lib.hid (HK3.out.thenF hk4 (fun _ hx => hx.elim))
    have HF3 : Hid (KeepT W V4) := fun b t cs h40 h42 hb => by
      have h1 := HNC.out ((hb.keep HKN.out id).keep HK.out id) h42
      exact ((h1.far (p := ⟨ci, 0, none⟩) (h1.ne_ HI2.out h40) _).keep hk4 id)
    clear hk4
    go_wp2
    go_ret
    exact ⟨rfl, by simpa using HF1.out, HF2.out, HF3.out⟩
end
end Go.Proofs.Ytjlenocmfeggdaa
