/- The walks of out, Cancel, Drop. -/
import Derived.Test.YtjlenocmfeggdaaImpN
namespace Go.Proofs.Ytjlenocmfeggdaa
open Go.RowKit
attribute [local go_sem] cell_alloc_some frozen_alloc_some
theorem deletefunc_nil (W : World) (cs ci : Nat) : Calls Try.prog 67 #[.slice none 0 0, delv cs ci] W fun e w' => e = .returned (.slice none 0 0) ∧ W = w' := by
  have H1 : Hid (Calls Try.prog 76 #[.slice none 0 0, delv cs ci] W fun e w' => e = .returned (.int .i64 (-1)) ∧ W = w') := by
    unfold delv
    go_enter Try.func76, Try.ntmps76
    go_wp2
    go_loop [8] (fun v => v = .int .i64 0) (fun _ => 0)
    case atStart => rfl
    case round =>
      subst hrel
      go_wp2
      go_ret
      exact ⟨rfl, rfl⟩
  unfold delv at *
  go_enter Try.func67, Try.ntmps67
  go_wp2_with fail
  refine H1.out.mono ?_
  rintro e V ⟨rfl, rfl⟩
  go_wp2
  go_ret
  exact ⟨rfl, rfl⟩
section
variable {w w' : World} {D M : Nat} {S : St} {v : Value} {sb fb : Nat} {T : Tl} {F : Nat → Prop} {fid c tc : Nat} {x : Value}
/-- what out leaves -/
theorem RepT.outs (h : RepT w D M S v sb fb T F) {p : Req → Bool} {v' : Value} {W V : World} (hk0 : Keep none_ w W) (hk : Keep (fun b => w.heap.size ≤ b ∨ v.ownBlock = some b) W V) (hq : V.ownsRow 0 44 5 v' (S.q.filter fun r => !p r).length (flatQ (S.q.filter fun r => !p r))) (hv : v'.ownBlock = v.ownBlock) :
    (∃ u, RepT (V.setCell ⟨D, 0, none⟩ v') D M (outS S p) u sb fb T F) ∧ Keep F w (V.setCell ⟨D, 0, none⟩ v') ∧ V.cell? ⟨D, 0, none⟩ = some v ∧ V.frozen? ⟨D, 0, none⟩ = false := by
  have hn : ∀ {b t : Nat} {cs : List Value}, Blk w b t cs → t ≠ 44 → Blk V b t cs := fun hb ht => (hb.keep hk0 id).keep hk (fun e => by
    rcases e with e | e
    · have := hb.lt; omega
    · exact own_ne h.que hb (Ne.symm ht) e)
  have kD : Keep (· = D) V (V.setCell ⟨D, 0, none⟩ v') := Keep.setCell (S := (· = D)) (p := ⟨D, 0, none⟩) (Keep.refl _ V) (.inl rfl) _
  have kp : ∀ {b t : Nat} {cs : List Value}, Blk w b t cs → t ≠ 44 → t ≠ 92 → Blk (V.setCell ⟨D, 0, none⟩ v') b t cs := fun hb n1 n2 => (hn hb n1).keep kD (hb.ne_ h.disk n2)
  have hD := hn h.disk (by decide)
  refine ⟨⟨v', h.inv.out p, hD.set_ 0 v', ownsRow_keep hq kD (fun b hb e => own_ne hq hD (by decide) (by rw [hb, e])), kp h.secs (by decide) (by decide), kp h.mem (by decide) (by decide), kp h.frs (by decide) (by decide), h.footD, fun g hg => h.footQ g (by rw [← hv]; exact hg), h.footS, h.footM, h.footF⟩, ?_, hD.cell_of rfl, hD.frozen 0⟩
  exact ((hk0.mono (S' := F) (fun _ hx => hx.elim)).thenF hk (fun b hb => by
    rcases hb with hb | hb
    · exact .inr hb
    · exact .inl (h.footQ _ hb))).thenF kD (fun b hb => .inl (by subst hb; exact h.footD))
set_option maxRecDepth 100000 in
set_option maxHeartbeats 1000000 in
theorem out_any (h : RepT w D M S v sb fb T F) {p : Req → Bool} (hcf : ∀ (xs : Array Value) (w : World), (callFunc fid xs).run Try.prog w = .ok (.enter fid xs) w) (hp : Says fid c tc x p) (hx : Blk w c tc [x]) (ht : tc ≠ 44 ∧ tc ≠ 42) :
    Calls Try.prog 40 #[.pointer (some ⟨D, 0, none⟩), such fid c] w fun e w' => ∃ u, e = .returned u ∧ w'.ownsRow w.heap.size 42 1 u (outL S p).length ((outL S p).map u32v) ∧ (∃ v', RepT w' D M (outS S p) v' sb fb T F) ∧ Keep F w w' := by
  have hk0 : Keep none_ w ((w.alloc (.cells #[such fid c] 94)).alloc (.cells #[.slice none 0 0] 40)) := ((Keep.refl _ w).alloc _).alloc _
  have hsz : ((w.alloc (.cells #[such fid c] 94)).alloc (.cells #[.slice none 0 0] 40)).heap.size = w.heap.size + 2 := by simp
  have hE : Env w.heap.size fid c tc w.heap.size (w.heap.size + 1) x ((w.alloc (.cells #[such fid c] 94)).alloc (.cells #[.slice none 0 0] 40)) [] := by
    refine ⟨(Blk.new w 94 [such fid c]).alloc _, hx.keep hk0 id, ⟨.slice none 0 0, ?_, own_nil _ _ _ _⟩, hx.lt, Nat.le_refl _, by omega, ht⟩
    have := Blk.new (w.alloc (.cells #[such fid c] 94)) 40 [.slice none 0 0]
    rw [World.size_alloc] at this
    exact this
  have d0 := h.disk.cell_of (i := 0) rfl
  have hDlt := h.disk.lt
  have hlen : S.q.length ≤ 8 := h.inv.q8
  rcases h.que.2 with ⟨rfl, hz⟩ | ⟨g, cap, cur, rfl, _, hh, _⟩
  · have hq0 : S.q = [] := List.eq_nil_of_length_eq_zero hz
    have H1 := Lib.hid (deletefunc_nil ((w.alloc (.cells #[such fid c] 94)).alloc (.cells #[.slice none 0 0] 40)) w.heap.size (w.heap.size + 1))
    obtain ⟨hr, hk, hc, hf⟩ := h.outs (p := p) (v' := .slice none 0 0) hk0 (Keep.refl _ _) (by rw [hq0]; exact own_nil _ _ _ _) rfl
    have HR := Lib.hid hr
    have HK := Lib.hid hk
    have HE := Lib.hid hE
    have HL : Hid (outL S p = []) := by unfold outL; rw [hq0]; exact Lib.hid rfl
    have i0 : (⟨w.heap.size + 1, 0, none⟩ : Addr) ≠ ⟨D, 0, none⟩ := fun e => by injection e; omega
    have hii : w.heap.size + 1 ≠ D := by omega
    have hI : Blk (((w.alloc (.cells #[such fid c] 94)).alloc (.cells #[.slice none 0 0] 40)).setCell ⟨D, 0, none⟩ (.slice none 0 0)) (w.heap.size + 1) 40 [.slice none 0 0] := by
      obtain ⟨v, h1, _⟩ := hE.n
      have : Blk ((w.alloc (.cells #[such fid c] 94)).alloc (.cells #[.slice none 0 0] 40)) (w.heap.size + 1) 40 [.slice none 0 0] := by
        have := Blk.new (w.alloc (.cells #[such fid c] 94)) 40 [.slice none 0 0]
        rw [World.size_alloc] at this
        exact this
      exact this.far (p := ⟨D, 0, none⟩) hii _
    have e0 := hI.cell_of (i := 0) rfl
    clear h hr hk hk0 hsz hE hp hcf hx hI hz hq0 i0
    unfold such delv at *
    go_enter Try.func40, Try.ntmps40
    go_wp2_with fail
    refine H1.out.mono ?_
    rintro e V ⟨rfl, rfl⟩
    generalize (w.alloc (.cells #[.func (.func fid) #[] #[.pointer (some ⟨c, 0, none⟩)]] 94)).alloc (.cells #[.slice none 0 0] 40) = W0 at *
    go_wp2
    go_ret
    exact ⟨_, rfl, by rw [HL.out]; exact own_nil _ _ _ _, HR.out, HK.out⟩
  · have hgl : g < w.heap.size := (Array.getElem?_eq_some_iff.1 hh).1
    have hcg : c ≠ g := fun e => by
      have : Blk w g 44 cur.toList := by unfold Blk; simpa using hh
      exact hx.ne_ this ht.1 e
    have H1 := Lib.hid (deletefunc_any hcf hp hE (by rw [hsz]; omega) hgl hcg (ownsRow_keep h.que hk0 (fun _ _ => id)) hlen)
    have HO : Hid (∀ {V : World}, Keep (fun b => w.heap.size ≤ b ∨ b = g) ((w.alloc (.cells #[such fid c] 94)).alloc (.cells #[.slice none 0 0] 40)) V → V.ownsRow 0 44 5 (.slice (some ⟨g, 0, none⟩) (S.q.filter fun r => !p r).length cap) (S.q.filter fun r => !p r).length (flatQ (S.q.filter fun r => !p r)) → _) := fun hk hq => h.outs (p := p) hk0 (hk.mono (fun b hb => hb.imp id (fun e => by subst e; rfl))) hq rfl
    clear h hk0 hsz hE hp hcf hx hh hcg
    generalize S.q.length = n at *
    have HLE : Hid ((outL S p).length = ((S.q.filter p).map (·.id)).length) := rfl
    generalize (S.q.filter fun r => !p r) = lf at *
    generalize lf.length = m at *
    unfold such delv at *
    go_enter Try.func40, Try.ntmps40
    go_wp2_with fail
    refine H1.out.mono ?_
    rintro e V ⟨rfl, hq, hE, hk⟩
    obtain ⟨hR, hK, hc, hf⟩ := HO.out hk hq
    have hii : w.heap.size + 1 ≠ D := by omega
    obtain ⟨u, hu1, hu2⟩ := hE.n
    obtain ⟨A, cu, rfl, _, _⟩ := own_form hu2
    have e0 := (hu1.far (p := ⟨D, 0, none⟩) hii (.slice (some ⟨g, 0, none⟩) m cap)).cell_of (i := 0) rfl
    have HU : Hid ((V.setCell ⟨D, 0, none⟩ (.slice (some ⟨g, 0, none⟩) m cap)).ownsRow w.heap.size 42 1 (.slice A ((S.q.filter p).map (·.id)).length cu) (outL S p).length ((outL S p).map u32v)) :=
      ownsRow_keep hu2 (Keep.setCell (S := (· = D)) (p := ⟨D, 0, none⟩) (Keep.refl _ V) (.inl rfl) _) (fun b hb e => by have := (ownsRow_lt hu2 hb).1; omega)
    have HR := Lib.hid hR
    have HK := Lib.hid hK
    clear hR hK hq hE hk hu1 hu2 HO H1
    generalize ((S.q.filter p).map (·.id)).length = mm at *
    go_wp2
    go_ret
    exact ⟨_, rfl, HU.out, HR.out, HK.out⟩
theorem out_at {fid c tc : Nat} {x : Value} {p : Req → Bool} (h : RepT w D M S v sb fb T F) (hcf : ∀ (xs : Array Value) (w : World), (callFunc fid xs).run Try.prog w = .ok (.enter fid xs) w) (hp : Says fid c tc x p) (ht : tc ≠ 44 ∧ tc ≠ 42) (hc : c = w.heap.size) :
    Calls Try.prog 40 #[.pointer (some ⟨D, 0, none⟩), .func (.func fid) #[] #[.pointer (some ⟨c, 0, none⟩)]] (w.alloc (.cells #[x] tc)) fun e w' => ∃ u, e = .returned u ∧ w'.ownsRow w.heap.size 42 1 u (outL S p).length ((outL S p).map u32v) ∧ (∃ v', RepT w' D M (outS S p) v' sb fb T F) ∧ Keep F w w' := by
  subst hc
  have hk : Keep none_ w (w.alloc (.cells #[x] tc)) := (Keep.refl _ w).alloc _
  refine (out_any (h.keep0 hk) hcf hp (Blk.new w tc [x]) ht).mono ?_
  rintro e w' ⟨u, rfl, ho, hr, hk2⟩
  exact ⟨u, rfl, ownsRow_base ho (by simp), hr, (hk.mono (fun _ hx => hx.elim)).trans hk2⟩
set_option maxRecDepth 100000 in
theorem drop_any (h : RepT w D M S v sb fb T F) (o : Int) :
    Calls Try.prog 15 #[.pointer (some ⟨D, 0, none⟩), .int .u8 o] w fun e w' => ∃ u, e = .returned u ∧ w'.ownsRow w.heap.size 42 1 u (outL S (ofOwner o)).length ((outL S (ofOwner o)).map u32v) ∧ (∃ v', RepT w' D M (outS S (ofOwner o)) v' sb fb T F) ∧ Keep F w w' := by
  have H1 := Lib.hid (out_at (fid := 41) (c := w.heap.size) (tc := 5) (x := .int .u8 o) h call41 (fun W hW r => drop1_any W _ o hW r) (by decide) rfl)
  clear h
  go_enter Try.func15, Try.ntmps15
  go_wp2_with fail
  refine H1.out.mono ?_
  rintro e w' ⟨u, rfl, ho, hr, hk⟩
  have HO := Lib.hid ho
  have HR := Lib.hid hr
  have HK := Lib.hid hk
  clear ho hr hk H1
  go_wp2
  go_ret
  exact ⟨u, rfl, HO.out, HR.out, HK.out⟩
set_option maxRecDepth 100000 in
theorem cancel_any (h : RepT w D M S v sb fb T F) (f : Int) :
    Calls Try.prog 19 #[.pointer (some ⟨D, 0, none⟩), .int .i64 f] w fun e w' => ∃ u, e = .returned u ∧ w'.ownsRow w.heap.size 42 1 u (outL S (ofFrame f)).length ((outL S (ofFrame f)).map u32v) ∧ (∃ v', RepT w' D M (outS S (ofFrame f)) v' sb fb T F) ∧ Keep F w w' := by
  have H1 := Lib.hid (out_at (fid := 46) (c := w.heap.size) (tc := 3) (x := .int .i64 f) h call46 (fun W hW r => cancel1_any W _ f hW r) (by decide) rfl)
  clear h
  go_enter Try.func19, Try.ntmps19
  go_wp2_with fail
  refine H1.out.mono ?_
  rintro e w' ⟨u, rfl, ho, hr, hk⟩
  have HO := Lib.hid ho
  have HR := Lib.hid hr
  have HK := Lib.hid hk
  clear ho hr hk H1
  go_wp2
  go_ret
  exact ⟨u, rfl, HO.out, HR.out, HK.out⟩
end
end Go.Proofs.Ytjlenocmfeggdaa
