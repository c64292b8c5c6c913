/- The walk of DeleteFunc of requests, at out's closure. -/
import Derived.Test.YtjlenocmfeggdaaImpM
namespace Go.Proofs.Ytjlenocmfeggdaa
open Go.RowKit
attribute [local go_sem] cell_alloc_some frozen_alloc_some
theorem flatQ_set (l : List Req) (i : Nat) (r : Req) (hi : i < l.length) : (((((flatQ l).set (i * 5) (.int .u32 r.id)).set (i * 5 + 1) (.bool r.wr)).set (i * 5 + 2) (.int .i64 r.sec)).set (i * 5 + 3) (.int .i64 r.fr)).set (i * 5 + 4) (.int .u8 r.own) = flatQ (l.set i r) := by
  induction l generalizing i with
  | nil => simp at hi
  | cons x l ih =>
    cases i with
    | zero => simp [flatQ, reqc]
    | succ i =>
      have := ih i (by simpa using hi)
      show (((((reqc x ++ flatQ l).set ((i + 1) * 5) _).set ((i + 1) * 5 + 1) _).set ((i + 1) * 5 + 2) _).set ((i + 1) * 5 + 3) _).set ((i + 1) * 5 + 4) _ = reqc x ++ flatQ (l.set i r)
      rw [← this]
      have h5 : (reqc x).length = 5 := rfl
      rw [List.set_append_right _ _ (by omega), List.set_append_right _ _ (by omega), List.set_append_right _ _ (by omega), List.set_append_right _ _ (by omega), List.set_append_right _ _ (by omega), h5]
      rw [show (i + 1) * 5 - 5 = i * 5 by omega, show (i + 1) * 5 + 1 - 5 = i * 5 + 1 by omega, show (i + 1) * 5 + 2 - 5 = i * 5 + 2 by omega, show (i + 1) * 5 + 3 - 5 = i * 5 + 3 by omega, show (i + 1) * 5 + 4 - 5 = i * 5 + 4 by omega]
def fin5o (W : World) (b o : Nat) (r : Req) : World := ((((W.setCell ⟨b, o, none⟩ (.int .u32 r.id)).setCell ⟨b, o + 1, none⟩ (.bool r.wr)).setCell ⟨b, o + 2, none⟩ (.int .i64 r.sec)).setCell ⟨b, o + 3, none⟩ (.int .i64 r.fr)).setCell ⟨b, o + 4, none⟩ (.int .u8 r.own)
/-- what holds at the loop's head: of the first j requests those that stay are the first f -/
structure DInv (base fid c tc cs ci : Nat) (x : Value) (p : Req → Bool) (g n cap : Nat) (l : List Req) (W V : World) (j f : Nat) : Prop where
  env : Env base fid c tc cs ci x V (((l.take j).filter p).map (·.id))
  row : ∃ L, V.ownsRow 0 44 5 (.slice (some ⟨g, 0, none⟩) n cap) n (flatQ L) ∧ L.take f = (l.take j).filter (fun r => !p r) ∧ L.drop j = l.drop j
  keep : Keep (fun b => base ≤ b ∨ b = g) W V
  hfj : f < j
section
variable {base fid c tc cs ci : Nat} {x : Value} {W V V' : World} {p : Req → Bool} {g n cap j f : Nat} {l : List Req}
theorem DInv.skip (h : DInv base fid c tc cs ci x p g n cap l W V j f) (hg : g < base) {r : Req} (hr : l[j]? = some r) (hp : p r = true) (hk : Keep (fun b => base ≤ b) V V') (he : Env base fid c tc cs ci x V' ((((l.take j).filter p).map (·.id)) ++ if p r = true then [r.id] else [])) :
    DInv base fid c tc cs ci x p g n cap l W V' (j + 1) f := by
  have hjl : j < l.length := (List.getElem?_eq_some_iff.1 hr).1
  have hrj : l[j] = r := (List.getElem?_eq_some_iff.1 hr).2
  obtain ⟨L, h1, h2, h3⟩ := h.row
  have ht : l.take (j + 1) = l.take j ++ [r] := by rw [List.take_add_one, hr]; rfl
  refine ⟨?_, ⟨L, ownsRow_keep h1 hk (fun b hb e => by injection hb with hb; have h1 : g = b := hb; have h2 : base ≤ b := e; omega), ?_, ?_⟩, h.keep.thenF hk (fun _ hx => .inl (.inl hx)), by have := h.hfj; omega⟩
  · rw [ht, List.filter_append, List.map_append]
    simpa [hp] using he
  · rw [ht, List.filter_append, h2]; simp [hp]
  · have := congrArg (List.drop 1) h3
    simpa [List.drop_drop] using this
theorem DInv.move (h : DInv base fid c tc cs ci x p g n cap l W V j f) (hg : g < base) {r : Req} (hr : l[j]? = some r) (hp : p r = false) (hk : Keep (fun b => base ≤ b) V V') (he : Env base fid c tc cs ci x V' ((((l.take j).filter p).map (·.id)) ++ if p r = true then [r.id] else [])) (hcg : c ≠ g) :
    DInv base fid c tc cs ci x p g n cap l W (fin5o V' g (f * 5) r) (j + 1) (f + 1) := by
  have hjl : j < l.length := (List.getElem?_eq_some_iff.1 hr).1
  obtain ⟨L, h1, h2, h3⟩ := h.row
  have hf := h.hfj
  have ht : l.take (j + 1) = l.take j ++ [r] := by rw [List.take_add_one, hr]; rfl
  have h1' := ownsRow_keep h1 hk (fun b hb e => by injection hb with hb; have h1 : g = b := hb; have h2 : base ≤ b := e; omega)
  have hLl : L.length - j = l.length - j := by have := congrArg List.length h3; simpa using this
  have hfL : f < L.length := by omega
  have hkf : Keep (· = g) V' (fin5o V' g (f * 5) r) :=
    (((((Keep.refl (· = g) V').setCell (p := ⟨g, f * 5, none⟩) (.inl rfl) _).setCell (p := ⟨g, f * 5 + 1, none⟩) (.inl rfl) _).setCell (p := ⟨g, f * 5 + 2, none⟩) (.inl rfl) _).setCell (p := ⟨g, f * 5 + 3, none⟩) (.inl rfl) _).setCell (p := ⟨g, f * 5 + 4, none⟩) (.inl rfl) _
  refine ⟨?_, ⟨L.set f r, ?_, ?_, ?_⟩, (h.keep.thenF hk (fun _ hx => .inl (.inl hx))).thenF hkf (fun _ hx => .inl (.inr hx)), by omega⟩
  · rw [ht, List.filter_append, List.map_append]
    have he' : Env base fid c tc cs ci x V' (((l.take j).filter p).map (·.id)) := by simpa [hp] using he
    have := he'.keep hkf (fun b hb e => by omega) hcg
    simpa [hp] using this
  · rw [← flatQ_set L f r hfL]
    unfold fin5o
    exact (((((((((h1'.stored _ _).1).stored _ _).1).stored _ _).1).stored _ _).1).stored _ _).1
  · rw [ht, List.filter_append, ← h2]
    have : (L.set f r).take (f + 1) = L.take f ++ [r] := by
      rw [List.take_add_one, List.getElem?_set_self hfL, List.take_set_of_le (Nat.le_refl f)]; rfl
    rw [this]; simp [hp]
  · rw [List.drop_set_of_lt (by omega)]
    have := congrArg (List.drop 1) h3
    simpa [List.drop_drop] using this
theorem DInv.at_ (h : DInv base fid c tc cs ci x p g n cap l W V j f) {r : Req} (hr : l[j]? = some r) :
    V.cell? ⟨g, j * 5, none⟩ = some (.int .u32 r.id) ∧ V.cell? ⟨g, j * 5 + 1, none⟩ = some (.bool r.wr) ∧ V.cell? ⟨g, j * 5 + 2, none⟩ = some (.int .i64 r.sec) ∧ V.cell? ⟨g, j * 5 + 3, none⟩ = some (.int .i64 r.fr) ∧ V.cell? ⟨g, j * 5 + 4, none⟩ = some (.int .u8 r.own) := by
  obtain ⟨L, h1, _, h3⟩ := h.row
  refine own_reqCells h1 ?_
  have := congrArg (fun m => m[0]?) h3
  simpa [hr] using this
theorem DInv.at_f (h : DInv base fid c tc cs ci x p g n cap l W V j f) (hg : g < base) (hk : Keep (fun b => base ≤ b) V V') (hf : f < n) :
    ∃ r : Req, (V'.cell? ⟨g, f * 5, none⟩ = some (.int .u32 r.id) ∧ V'.cell? ⟨g, f * 5 + 1, none⟩ = some (.bool r.wr) ∧ V'.cell? ⟨g, f * 5 + 2, none⟩ = some (.int .i64 r.sec) ∧ V'.cell? ⟨g, f * 5 + 3, none⟩ = some (.int .i64 r.fr) ∧ V'.cell? ⟨g, f * 5 + 4, none⟩ = some (.int .u8 r.own)) ∧
      V'.frozen? ⟨g, f * 5, none⟩ = false ∧ V'.frozen? ⟨g, f * 5 + 1, none⟩ = false ∧ V'.frozen? ⟨g, f * 5 + 2, none⟩ = false ∧ V'.frozen? ⟨g, f * 5 + 3, none⟩ = false ∧ V'.frozen? ⟨g, f * 5 + 4, none⟩ = false := by
  obtain ⟨L, h1, _, _⟩ := h.row
  have h1' := ownsRow_keep h1 hk (fun b hb e => by injection hb with hb; have h1 : g = b := hb; have h2 : base ≤ b := e; omega)
  have hL : L.length = n := by have := h1.1; rw [flatQ_len] at this; omega
  exact ⟨L[f], own_reqCells h1' (List.getElem?_eq_getElem (by omega)), h1'.frozenAt _, h1'.frozenAt _, h1'.frozenAt _, h1'.frozenAt _, h1'.frozenAt _⟩
theorem DInv.last (h : DInv base fid c tc cs ci x p g n cap l W V n f) (hl : l.length = n) : (l.filter fun r => !p r).length = f ∧ V.ownsRow 0 44 5 (.slice (some ⟨g, 0, none⟩) f cap) f (flatQ (l.filter fun r => !p r)) ∧ Env base fid c tc cs ci x V ((l.filter p).map (·.id)) := by
  obtain ⟨L, h1, h2, _⟩ := h.row
  have hL : L.length = n := by have := h1.1; rw [flatQ_len] at this; omega
  have hf := h.hfj
  have ht : l.take n = l := List.take_of_length_le (by omega)
  rw [ht] at h2
  refine ⟨by rw [← h2, List.length_take]; omega, ?_, by have := h.env; rw [ht] at this; exact this⟩
  have := own_cut h1 (Nat.le_of_lt hf)
  rw [flatQ_take, h2] at this
  exact this
theorem DInv.start {p : Req → Bool} (he : Env base fid c tc cs ci x V (((l.take (f + 1)).filter p).map (·.id))) (hk : Keep (fun b => base ≤ b) W V) (hq : W.ownsRow 0 44 5 (.slice (some ⟨g, 0, none⟩) n cap) n (flatQ l)) (hg : g < base)
    (hnot : ∀ j (r : Req), j < f → l[j]? = some r → p r = false) (hyes : ∀ r : Req, l[f]? = some r → p r = true) (hf : f < l.length) : DInv base fid c tc cs ci x p g n cap l W V (f + 1) f := by
  refine ⟨he, ⟨l, ownsRow_keep hq hk (fun b hb e => by injection hb with hb; have h1 : g = b := hb; have h2 : base ≤ b := e; omega), ?_, rfl⟩, hk.mono (fun _ hx => .inl hx), by omega⟩
  rw [List.take_add_one, List.getElem?_eq_getElem hf, List.filter_append]
  have h1 : (l.take f).filter (fun r => !p r) = l.take f := by
    rw [List.filter_eq_self]
    intro r hr
    obtain ⟨j, hj, rfl⟩ := List.mem_iff_getElem.1 hr
    have hj' : j < f := by have := hj; rw [List.length_take] at this; omega
    rw [List.getElem_take, hnot j l[j] hj' (List.getElem?_eq_getElem (by omega))]; rfl
  have h2 := hyes l[f] (List.getElem?_eq_getElem hf)
  rw [h1]
  simp [h2]
/-- what stays when none was such -/
theorem filter_none {p : Req → Bool} (h : ∀ j (r : Req), j < l.length → l[j]? = some r → p r = false) : l.filter (fun r => !p r) = l ∧ l.filter p = [] := by
  constructor
  · rw [List.filter_eq_self]
    intro r hr
    obtain ⟨j, hj, rfl⟩ := List.mem_iff_getElem.1 hr
    rw [h j l[j] hj (List.getElem?_eq_getElem hj)]; rfl
  · rw [List.filter_eq_nil_iff]
    intro r hr hpr
    obtain ⟨j, hj, rfl⟩ := List.mem_iff_getElem.1 hr
    rw [h j l[j] hj (List.getElem?_eq_getElem hj)] at hpr
    cases hpr
set_option maxRecDepth 100000 in
set_option maxHeartbeats 2000000 in
theorem deletefunc_any {p : Req → Bool} (hcf : ∀ (xs : Array Value) (w : World), (callFunc fid xs).run Try.prog w = .ok (.enter fid xs) w) (hp : Says fid c tc x p) (h : Env base fid c tc cs ci x W []) (hb : base ≤ W.heap.size)
    (hg : g < base) (hcg : c ≠ g) (hq : W.ownsRow 0 44 5 (.slice (some ⟨g, 0, none⟩) n cap) n (flatQ l)) (hn : n ≤ 8) :
    Calls Try.prog 67 #[.slice (some ⟨g, 0, none⟩) n cap, delv cs ci] W fun e w' => e = .returned (.slice (some ⟨g, 0, none⟩) (l.filter fun r => !p r).length cap) ∧ w'.ownsRow 0 44 5 (.slice (some ⟨g, 0, none⟩) (l.filter fun r => !p r).length cap) (l.filter fun r => !p r).length (flatQ (l.filter fun r => !p r)) ∧
      Env base fid c tc cs ci x w' ((l.filter p).map (·.id)) ∧ Keep (fun b => base ≤ b ∨ b = g) W w' := by
  have hlen : l.length = n := by have h1 := hq.1; rw [flatQ_len] at h1; omega
  have H1 := Lib.hid (indexfunc_any hcf hp h hb hg hq hn)
  have hnot : ∀ j (r : Req), j < firstP p l → l[j]? = some r → p r = false := fun j r hj hr => by
    obtain ⟨hjl, rfl⟩ := List.getElem?_eq_some_iff.1 hr
    exact Bool.eq_false_iff.2 (by simpa using List.not_of_lt_findIdx hj)
  have hyes : ∀ r : Req, l[firstP p l]? = some r → p r = true := fun r hr => by
    obtain ⟨hjl, rfl⟩ := List.getElem?_eq_some_iff.1 hr
    exact List.findIdx_getElem (w := hjl)
  obtain ⟨A', cap', hv, hc1, hc2⟩ := own_form hq
  injection hv with e1 e2 e3
  subst e3
  clear e1 e2 A'
  generalize firstP p l = f0 at *
  by_cases hf : f0 < n
  · rw [if_pos hf] at H1
    have HST : Hid (∀ {V : World}, Env base fid c tc cs ci x V (((l.take (f0 + 1)).filter p).map (·.id)) → Keep (fun b => base ≤ b) W V → DInv base fid c tc cs ci x p g n cap l W V (f0 + 1) f0) := fun he hk => DInv.start he hk hq hg hnot hyes (by omega)
    have HC : Hid (∀ {V : World} {j f : Nat}, DInv base fid c tc cs ci x p g n cap l W V j f → ∀ r, Calls Try.prog 68 #[.agg (reqc r).toArray, .pointer (some ⟨cs, 0, none⟩), .pointer (some ⟨ci, 0, none⟩)] (V.alloc (.cells (reqc r).toArray 44)) fun e w' =>
        e = .returned (.bool (p r)) ∧ Env base fid c tc cs ci x w' ((((l.take j).filter p).map (·.id)) ++ if p r = true then [r.id] else []) ∧ Keep (fun b => base ≤ b) (V.alloc (.cells (reqc r).toArray 44)) w' ∧ KeepT (V.alloc (.cells (reqc r).toArray 44)) w') := fun {V j f} hd r =>
      out1_any hcf hp (hd.env.keep0 ((Keep.refl _ _).alloc _)) (by have h1 := List.length_filter_le p (l.take j); rw [List.length_map]; have h2 := List.length_take_le j l; have h3 : l.length ≤ 8 := by omega
                                                                   have h4 : (l.take j).length ≤ l.length := List.length_take_le' _ _
                                                                   omega) (by have := hd.keep.size; rw [World.size_alloc]; omega) r
    have HLEN := Lib.hid hlen
    have HQ := Lib.hid hq
    clear hq h hcf hp hnot hyes hlen
    unfold delv
    have i0 : (0 : Int) ≤ (f0 : Int) := by omega
    have i1 : (f0 : Int) < (n : Int) := by omega
    have i2 : (n : Int) ≤ 8 := by omega
    have i3 : ((f0 : Int) == -1) = false := by rw [beq_eq_false_iff_ne]; omega
    go_enter Try.func67, Try.ntmps67
    go_wp2_with fail
    refine H1.out.mono ?_
    rintro e V ⟨rfl, he, hk⟩
    have HD := Lib.hid (HST.out he hk)
    clear he hk H1 HST
    go_wp2_with fail
    clear i0 i1 i3
    go_loopw [5, 6] (fun vi vj V => ∃ j f : Nat, j ≤ n ∧ vi = .int .i64 f ∧ vj = .int .i64 j ∧ Hid (DInv base fid c tc cs ci x p g n cap l W V j f)) (fun _ vj _ => 8 - (intOf vj).toNat)
    case atStart => exact ⟨f0 + 1, f0, by omega, rfl, by go_num, HD⟩
    case round =>
      obtain ⟨j, f, hj, rfl, rfl, hD⟩ := hrel
      have hfj := hD.out.hfj
      by_cases hjn : j < n
      · have j0 : (0 : Int) ≤ (j : Int) := by omega
        have j1 : (j : Int) < (n : Int) := by omega
        have f0' : (0 : Int) ≤ (f : Int) := by omega
        have f1' : (f : Int) < (n : Int) := by omega
        obtain ⟨r, hr⟩ : ∃ r, l[j]? = some r := ⟨_, List.getElem?_eq_getElem (by have := HLEN.out; omega)⟩
        obtain ⟨c0, c1, c2, c3, c4⟩ := hD.out.at_ hr
        have hbx : Blk (wr.alloc (.cells (reqc r).toArray 44)) wr.heap.size 44 (reqc r) := Blk.new wr 44 (reqc r)
        have x0 := hbx.cell_of (i := 0) rfl
        have x1 := hbx.cell_of (i := 1) rfl
        have x2 := hbx.cell_of (i := 2) rfl
        have x3 := hbx.cell_of (i := 3) rfl
        have x4 := hbx.cell_of (i := 4) rfl
        have H1 := Lib.hid (HC.out hD.out r)
        have HBX := Lib.hid hbx
        have HR := Lib.hid hr
        have hwr := hD.out.keep.size
        have HKA : Hid (Keep (fun b => base ≤ b) wr (wr.alloc (.cells (reqc r).toArray 44))) := (Keep.refl _ wr).alloc _
        clear hr hbx
        cases hpr : p r with
        | true =>
          rw [hpr] at H1
          have HPR := Lib.hid hpr
          clear hpr
          have HSK : Hid (∀ {V' : World}, Keep (fun b => base ≤ b) wr V' → Env base fid c tc cs ci x V' ((((l.take j).filter p).map (·.id)) ++ if true = true then [r.id] else []) → DInv base fid c tc cs ci x p g n cap l W V' (j + 1) f) := fun hk he => hD.out.skip hg HR.out HPR.out hk (by rw [HPR.out]; exact he)
          obtain ⟨rid, rwr, rsec, rfr, rown⟩ := r
          unfold reqc at *
          go_wp2_with fail
          refine H1.out.mono ?_
          rintro e V2 ⟨rfl, he2, hk2, ht2⟩
          have HN := Lib.hid (HSK.out (HKA.out.trans hk2) he2)
          clear he2 hk2 c0 c1 c2 c3 c4 x0 x1 x2 x3 x4
          go_wp2
          go_roundw
          case rel => exact ⟨j + 1, f, by omega, rfl, by go_num, HN⟩
          case measure => simp [intOf]; omega
        | false =>
          rw [hpr] at H1
          have HPR := Lib.hid hpr
          clear hpr
          have HSK : Hid (∀ {V' : World}, Keep (fun b => base ≤ b) wr V' → Env base fid c tc cs ci x V' ((((l.take j).filter p).map (·.id)) ++ if false = true then [r.id] else []) → DInv base fid c tc cs ci x p g n cap l W (fin5o V' g (f * 5) r) (j + 1) (f + 1)) := fun hk he => hD.out.move hg HR.out HPR.out hk (by rw [HPR.out]; exact he) hcg
          obtain ⟨rid, rwr, rsec, rfr, rown⟩ := r
          unfold reqc at *
          go_wp2_with fail
          refine H1.out.mono ?_
          rintro e V2 ⟨rfl, he2, hk2, ht2⟩
          have HN := Lib.hid (HSK.out (HKA.out.trans hk2) he2)
          obtain ⟨r', ⟨d0, d1, d2, d3, d4⟩, y0, y1, y2, y3, y4⟩ := hD.out.at_f hg (HKA.out.trans hk2) (by omega)
          have hX2 := ht2 _ _ _ (by decide) (by decide) HBX.out
          have z0 := hX2.cell_of (i := 0) rfl
          have z1 := hX2.cell_of (i := 1) rfl
          have z2 := hX2.cell_of (i := 2) rfl
          have z3 := hX2.cell_of (i := 3) rfl
          have z4 := hX2.cell_of (i := 4) rfl
          clear he2 hk2 ht2 hX2 c0 c1 c2 c3 c4 x0 x1 x2 x3 x4
          unfold fin5o at HN
          go_wp2
          go_roundw
          case rel => exact ⟨j + 1, f + 1, by omega, by go_num, by go_num, HN⟩
          case measure => simp [intOf]; omega
      · obtain rfl : j = n := by omega
        obtain ⟨hl1, hl2, hl3⟩ := hD.out.last HLEN.out
        have HL1 := Lib.hid hl1
        have HL2 := Lib.hid hl2
        have HL3 := Lib.hid hl3
        have HK9 := Lib.hid hD.out.keep
        clear hl1 hl2 hl3
        have k0 : (f : Int) ≤ (j : Int) := by omega
        have k1 : (0 : Int) ≤ (f : Int) := by omega
        have k2 : (f : Int) ≤ (cap : Int) := by omega
        have k3 : ¬ (cap = f) := by omega
        have k4 : ¬ ((j : Int) < (j : Int)) := by omega
        go_wp2_with (refine wpList_clear_own rfl _ 38 rfl 0 44 _ 5 Try.underlying38 zero44 rfl (by simp [Value.cells, Value.oneCell']) g f cap (flatQ (l.filter fun r => !p r)) HL2.out (j - f) (cap - f) (by omega) ?hc ?_; (case hc => (go_simp)); intro W2 hown2 hk2 _)
        have HR1 := Lib.hid hown2
        have HR2 := Lib.hid (HL3.out.keep hk2 (fun b hb e => by omega) hcg)
        have HR3 := Lib.hid (HK9.out.thenF hk2 (fun x hx => .inl (.inr hx)))
        clear hown2 hk2
        go_wp2
        go_ret
        rw [HL1.out]
        exact ⟨rfl, HR1.out, HR2.out, HR3.out⟩
  · rw [if_neg hf] at H1
    obtain ⟨hF, hF2⟩ := filter_none (p := p) (l := l) (fun j r hj hr => hnot j r (by omega) hr)
    have HQ := Lib.hid hq
    have hln : (l.filter fun r => !p r).length = n := by rw [hF, hlen]
    rw [hF, hlen, hF2]
    have HT : Hid (((l.take (f0 + 1)).filter p).map (·.id) = []) := by rw [List.take_of_length_le (by omega), hF2]; exact Lib.hid rfl
    rw [HT.out] at H1
    clear hF hF2 hln HT hq h hcf hp hnot hyes hlen
    unfold delv at *
    go_enter Try.func67, Try.ntmps67
    go_wp2_with fail
    refine H1.out.mono ?_
    rintro e V ⟨rfl, he, hk⟩
    have HE := Lib.hid he
    have HK := Lib.hid hk
    have HQ2 := Lib.hid (ownsRow_keep HQ.out hk (fun b hb e => by injection hb with hb; have h1 : g = b := hb; have h2 : base ≤ b := e; omega))
    clear he hk H1
    go_wp2
    go_ret
    exact ⟨rfl, HQ2.out, HE.out, HK.out.mono (fun _ hx => .inl hx)⟩
end
end Go.Proofs.Ytjlenocmfeggdaa
