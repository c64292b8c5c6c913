/- The walks of Fork and New. -/
import Derived.Test.YtdiginkpclbmdaaImpI
namespace Go.Proofs.Ytdiginkpclbmdaa
open Go.RowKit
attribute [local go_sem] cell_alloc_some frozen_alloc_some
def forkE (S : St) (p q : Int) : Int := if mayE S p = 5 then 5 else freshE S q
def forkS (S : St) (p q : Int) : St := if forkE S p q = 0 then S.fork p.toNat q.toNat else S
/-- the first k descriptors of q are p's -/
def part (fd : Nat → Nat → Nat) (p q k : Nat) : Nat → Nat → Nat := fun x j => if x = q ∧ j < k then fd p j else fd x j
theorem part_zero (fd : Nat → Nat → Nat) (p q : Nat) : part fd p q 0 = fd := by funext x j; simp [part]
theorem part_succ (fd : Nat → Nat → Nat) (p q k : Nat) : part fd p q (k + 1) = setFd (part fd p q k) q k (fd p k) := by
  funext x j
  unfold setFd part
  by_cases h : x = q
  · subst h
    by_cases h2 : j = k
    · subst h2; simp
    · by_cases h3 : j < k
      · rw [if_pos ⟨rfl, by omega⟩, if_neg (by omega), if_pos ⟨rfl, h3⟩]
      · rw [if_neg (by omega), if_neg (by omega), if_neg (by omega)]
  · rw [if_neg (by omega), if_neg (by omega), if_neg (by omega)]
theorem part_at (fd : Nat → Nat → Nat) (p q k : Nat) (h : fd q k = 0) : part fd p q k q k = 0 := by simp [part, h]
theorem cnt_part_same (fd : Nat → Nat → Nat) {p q k n : Nat} (hq : q < 6) (hk : k < 8) (hz : fd q k = 0) (hn : n ≠ 0) : cnt (part fd p q (k + 1)) n = cnt (part fd p q k) n + (if fd p k = n then 1 else 0) := by
  rw [part_succ]
  have := cnt_setFd (part fd p q k) q k (fd p k) n hq hk
  rw [part_at fd p q k hz, if_neg (Ne.symm hn)] at this
  exact this
theorem cnt_congr {f g : Nat → Nat → Nat} (h : ∀ x j, x < 6 → j < 8 → f x j = g x j) (n : Nat) : cnt f n = cnt g n :=
  cntB_congr 48 fun i hi => by show (f (i / 8) (i % 8) == n) = (g (i / 8) (i % 8) == n); rw [h _ _ (by omega) (by omega)]
theorem cnt_fork (S : St) (p q n : Nat) : cnt (S.fork p q).fd n = cnt (part S.fd p q 8) n :=
  cnt_congr (fun x j _ hj => by
    simp only [St.fork, part]
    by_cases e : x = q
    · rw [if_pos e, if_pos ⟨e, hj⟩]
    · rw [if_neg e, if_neg (by omega)]) n
theorem idx67 (c : Nat → Value) (k : Nat) (hk : k < 8) (w : World) : (Instr.index 67 (.agg #[c 0, c 1, c 2, c 3, c 4, c 5, c 6, c 7]) (.int .i64 k)).run Try.prog w = .ok (c k) w := by
  rcases (by omega : k = 0 ∨ k = 1 ∨ k = 2 ∨ k = 3 ∨ k = 4 ∨ k = 5 ∨ k = 6 ∨ k = 7) with rfl | rfl | rfl | rfl | rfl | rfl | rfl | rfl <;> kernel_rfl
section
variable {w w' : World} {T : Nat} {S : St} {pb sb : Nat → Nat} {F : Nat → Prop}
/-- while a process is forked: q's descriptors lie at b, k of them are counted -/
structure Forking (w : World) (T : Nat) (S : St) (pb sb : Nat → Nat) (F : Nat → Prop) (p q b k : Nat) : Prop where
  tab : Blk w T 64 (row 6 (tcell S pb))
  proc : ∀ x, x < 6 → S.has x = true → Blk w (pb x) 67 (row 8 (pcell S sb x))
  new : Blk w b 67 (row 8 (pcell S sb p))
  shr : ∀ n, Live S n → Blk w (sb n) 72 (shc (S.what n) (cnt (part S.fd p q k) n))
theorem Forking.step {p q b k : Nat} (h : Forking w T S pb sb F p q b k) (hr : ∀ n m, Live S n → Live S m → sb n = sb m → n = m) (hp : p < 6) (hq : q < 6) (hk : k < 8) (hz : S.fd q k = 0) (hf : S.fd p k ≠ 0) :
    Forking (w.setCell ⟨sb (S.fd p k), 3, none⟩ (.int .i64 (cnt (part S.fd p q k) (S.fd p k) + 1))) T S pb sb F p q b (k + 1) := by
  have hl := live_of hp hk hf
  have hs := h.shr _ hl
  refine ⟨h.tab.far (p := ⟨sb (S.fd p k), 3, none⟩) (h.tab.ne_ hs (by decide)) _, fun x hx hh => (h.proc x hx hh).far (p := ⟨sb (S.fd p k), 3, none⟩) ((h.proc x hx hh).ne_ hs (by decide)) _,
    h.new.far (p := ⟨sb (S.fd p k), 3, none⟩) (h.new.ne_ hs (by decide)) _, fun n hn => ?_⟩
  rw [cnt_part_same S.fd hq hk hz hn.1]
  by_cases e : n = S.fd p k
  · subst e; rw [if_pos rfl]; exact hs.set_ 3 (.int .i64 (cnt (part S.fd p q k) (S.fd p k) + 1))
  · rw [if_neg (Ne.symm e)]; exact (h.shr n hn).far (p := ⟨sb (S.fd p k), 3, none⟩) (fun e' => e (hr _ _ hn hl e')) _
theorem Forking.skip {p q b k : Nat} (h : Forking w T S pb sb F p q b k) (hq : q < 6) (hk : k < 8) (hz : S.fd q k = 0) (hf : S.fd p k = 0) : Forking w T S pb sb F p q b (k + 1) :=
  ⟨h.tab, h.proc, h.new, fun n hn => by rw [cnt_part_same S.fd hq hk hz hn.1, if_neg (by rw [hf]; exact Ne.symm hn.1)]; exact h.shr n hn⟩
/-- the process is there -/
theorem Forking.done {w0 : World} {p q b : Nat} (h : Forking w T S pb sb F p q b 8) (h0 : RepT w0 T S pb sb F) (hp : p < 6) (hq : q < 6) (hh : S.has p = true) (hhq : S.has q = false) (hb : w0.heap.size ≤ b) :
    RepT (w.setCell ⟨T, q, none⟩ (.pointer (some ⟨b, 0, none⟩))) T (S.fork p q) (fun x => if x = q then b else pb x) sb (fun x => F x ∨ x = b) := by
  have live : ∀ n, Live (S.fork p q) n → Live S n := fun n hn => by
    obtain ⟨x, j, hx, hj, he⟩ := cnt_of_pos hn.2
    simp only [St.fork] at he
    split at he
    · rw [← he]; exact live_of hp hj (by rw [he]; exact hn.1)
    · rw [← he]; exact live_of hx hj (by rw [he]; exact hn.1)
  have hne : p ≠ q := by rintro rfl; rw [hh] at hhq; cases hhq
  have key : ∀ x, x ≠ q → (S.fork p q).has x = true → S.has x = true := fun x e hx => by simp only [St.fork] at hx; rw [if_neg e] at hx; exact hx
  have hlt : ∀ x, x < 6 → S.has x = true → pb x ≠ b := fun x hx hxh => by have := (h0.proc x hx hxh).lt; omega
  refine ⟨h0.inv.fork hp, ?_, fun x hx hxh => ?_, fun n hn => ?_, fun x y hx hy hxh hyh e => ?_, fun n m hn hm e => h0.sinj n m (live n hn) (live m hm) e, .inl h0.footT, fun x hx hxh => ?_, fun n hn => .inl (h0.footS n (live n hn))⟩
  · have := h.tab.set_ q (.pointer (some ⟨b, 0, none⟩))
    rw [row_set] at this
    have e : row 6 (tcell (S.fork p q) (fun x => if x = q then b else pb x)) = row 6 (fun j => if j = q then .pointer (some ⟨b, 0, none⟩) else tcell S pb j) := by
      refine row_congr fun j _ => ?_
      by_cases ej : j = q
      · subst ej; simp [tcell, ptr?, St.fork]
      · simp [tcell, ptr?, St.fork, ej]
    rw [e]; exact this
  · by_cases e : x = q
    · subst e
      rw [if_pos rfl]
      have e : row 8 (pcell (S.fork p x) sb x) = row 8 (pcell S sb p) := row_congr fun j _ => by simp [pcell, St.fork]
      rw [e]; exact h.new.far (p := ⟨T, x, none⟩) (Ne.symm (h.tab.ne_ h.new (by decide))) _
    · rw [if_neg e]
      have e2 : row 8 (pcell (S.fork p q) sb x) = row 8 (pcell S sb x) := row_congr fun j _ => by simp [pcell, St.fork, e]
      rw [e2]; exact (h.proc x hx (key x e hxh)).far (p := ⟨T, q, none⟩) (Ne.symm (h.tab.ne_ (h.proc x hx (key x e hxh)) (by decide))) _
  · rw [cnt_fork S p q n]
    exact (h.shr n (live n hn)).far (p := ⟨T, q, none⟩) (Ne.symm (h.tab.ne_ (h.shr n (live n hn)) (by decide))) _
  · change (if x = q then b else pb x) = (if y = q then b else pb y) at e
    by_cases e1 : x = q
    · by_cases e2 : y = q
      · rw [e1, e2]
      · rw [if_pos e1, if_neg e2] at e; exact absurd e.symm (hlt y hy (key y e2 hyh))
    · by_cases e2 : y = q
      · rw [if_neg e1, if_pos e2] at e; exact absurd e (hlt x hx (key x e1 hxh))
      · rw [if_neg e1, if_neg e2] at e; exact h0.inj x y hx hy (key x e1 hxh) (key y e2 hyh) e
  · by_cases e : x = q
    · rw [if_pos e]; exact .inr rfl
    · rw [if_neg e]; exact .inl (h0.footP x hx (key x e hxh))
def pv (S : St) (sb : Nat → Nat) (p k : Nat) : Option Addr := if S.fd p k != 0 then some ⟨sb (S.fd p k), 0, none⟩ else none
theorem pv_none {S : St} {sb : Nat → Nat} {p k : Nat} (h : S.fd p k = 0) : pv S sb p k = none := by simp [pv, h]
theorem pv_some {S : St} {sb : Nat → Nat} {p k : Nat} (h : S.fd p k ≠ 0) : pv S sb p k = some ⟨sb (S.fd p k), 0, none⟩ := by simp [pv, h]
theorem row_pv (S : St) (sb : Nat → Nat) (p : Nat) : (row 8 (pcell S sb p)).toArray = #[.pointer (pv S sb p 0), .pointer (pv S sb p 1), .pointer (pv S sb p 2), .pointer (pv S sb p 3), .pointer (pv S sb p 4), .pointer (pv S sb p 5), .pointer (pv S sb p 6), .pointer (pv S sb p 7)] := rfl
set_option maxHeartbeats 1000000 in
theorem fork_ok (h : RepT w T S pb sb F) (p q : Nat) (hp : p < 6) (hq : q < 6) (hh : S.has p = true) (hhq : S.has q = false) :
    Calls Try.prog 13 #[.pointer (some ⟨T, 0, none⟩), .int .i64 p, .int .i64 q] w fun e w' => e = .returned (.int .i64 0) ∧ RT w' T (S.fork p q) (ext F w w') ∧ Keep F w w' := by
  have H1 := Lib.hid (of_ok h p hp hh)
  have hfr : freshE S q = 0 := by unfold freshE; rw [if_neg (by omega), if_neg (by simp [hhq])]
  have H2 := fresh_any h q
  rw [hfr] at H2
  have HF2 := Lib.hid H2; clear H2
  have HH := Lib.hid h
  have c0 : w.cell? ⟨pb p, 0, none⟩ = some (.pointer (pv S sb p 0)) := h.cellP hp hh (k := 0) (by decide)
  have c1 : w.cell? ⟨pb p, 1, none⟩ = some (.pointer (pv S sb p 1)) := h.cellP hp hh (k := 1) (by decide)
  have c2 : w.cell? ⟨pb p, 2, none⟩ = some (.pointer (pv S sb p 2)) := h.cellP hp hh (k := 2) (by decide)
  have c3 : w.cell? ⟨pb p, 3, none⟩ = some (.pointer (pv S sb p 3)) := h.cellP hp hh (k := 3) (by decide)
  have c4 : w.cell? ⟨pb p, 4, none⟩ = some (.pointer (pv S sb p 4)) := h.cellP hp hh (k := 4) (by decide)
  have c5 : w.cell? ⟨pb p, 5, none⟩ = some (.pointer (pv S sb p 5)) := h.cellP hp hh (k := 5) (by decide)
  have c6 : w.cell? ⟨pb p, 6, none⟩ = some (.pointer (pv S sb p 6)) := h.cellP hp hh (k := 6) (by decide)
  have c7 : w.cell? ⟨pb p, 7, none⟩ = some (.pointer (pv S sb p 7)) := h.cellP hp hh (k := 7) (by decide)
  have hz : ∀ k, k < 8 → S.fd q k = 0 := fun k hk => h.inv.none q k hq hk hhq
  have HZ := Lib.hid hz
  have HHH := Lib.hid hh; have HHQ := Lib.hid hhq
  have HI := Lib.hid h.sinj
  have HLT := Lib.hid h.tab.lt
  have hF0 : Forking (w.alloc (.cells (row 8 (pcell S sb p)).toArray 67)) T S pb sb F p q w.heap.size 0 :=
    ⟨h.tab.alloc _, fun x hx hxh => (h.proc x hx hxh).alloc _, Blk.new w 67 _, fun n hn => by rw [part_zero]; exact (h.shr n hn).alloc _⟩
  rw [row_pv] at hF0
  have HF0 := Lib.hid hF0
  clear h hfr hz hh hhq hF0
  go_enter Try.func13, Try.ntmps13
  go_wp2_with fail
  refine H1.out.mono ?_
  rintro e w' ⟨rfl, rfl⟩
  go_wp2_with fail
  refine HF2.out.mono ?_
  rintro e w' ⟨rfl, rfl⟩
  go_wp2
  generalize hW : (w.alloc (.cells #[.pointer (pv S sb p 0), .pointer (pv S sb p 1), .pointer (pv S sb p 2), .pointer (pv S sb p 3), .pointer (pv S sb p 4), .pointer (pv S sb p 5), .pointer (pv S sb p 6), .pointer (pv S sb p 7)] 67)) = w1 at *
  have HK0 : Hid (Keep F w w1) := by rw [← hW]; exact (Keep.refl F w).alloc _
  have HS0 : Hid (w1.heap.size = w.heap.size + 1) := by rw [← hW]; simp [Hid]
  clear hW
  go_loopw [32] (fun v wr => ∃ k : Nat, k ≤ 8 ∧ v = .int .i64 k ∧ Hid (Forking wr T S pb sb F p q w.heap.size k) ∧ Hid (Keep F w wr) ∧ Hid (wr.heap.size = w.heap.size + 1)) (fun v _ => 8 - (intOf v).toNat)
  case atStart => exact ⟨0, by omega, rfl, HF0, HK0, HS0⟩
  case round =>
    obtain ⟨k, hk, rfl, HFR, HK, HSZ⟩ := hrel
    by_cases hlt : k < 8
    · have hix := idx67 (fun k => .pointer (pv S sb p k)) k hlt
      by_cases hf : S.fd p k = 0
      · rw [pv_none hf] at hix
        have HFR2 := Lib.hid (HFR.out.skip hq hlt (HZ.out k hlt) hf)
        clear hf
        go_wp2
        go_roundw
        case rel => exact ⟨k + 1, by omega, by go_num, HFR2, HK, HSZ⟩
        case measure => simp [intOf]; omega
      · rw [pv_some hf] at hix
        have hl := live_of hp hlt hf
        have hs := HFR.out.shr _ hl
        have hc := hs.cell_of (i := 3) (v := .int .i64 (cnt (part S.fd p q k) (S.fd p k))) rfl
        have hz := hs.frozen 3
        have hcl := cnt_le (part S.fd p q k) (S.fd p k)
        have HFR2 := Lib.hid (HFR.out.step HI.out hp hq hlt (HZ.out k hlt) hf)
        have HFO := Lib.hid (HH.out.footS _ hl)
        clear hf hl hs
        go_wp2
        go_roundw
        case rel => exact ⟨k + 1, by omega, by go_num, HFR2, HK.out.setCell (.inl HFO.out) _, by simp [Hid]; exact HSZ.out⟩
        case measure => simp [intOf]; omega
    · obtain rfl : k = 8 := by omega
      have hc := HFR.out.tab.cell_of (row_get _ hq)
      have hz := HFR.out.tab.frozen q
      have h4 : (0 : Int) ≤ (q : Int) := by omega
      have h5 : (q : Int) < 6 := by omega
      have HD := Lib.hid (HFR.out.done HH.out hp hq HHH.out HHQ.out (Nat.le_refl _))
      go_wp2
      go_ret
      refine ⟨rfl, ⟨_, _, HD.out.more fun b hb => ?_⟩, HK.out.setCell (.inl HH.out.footT) _⟩
      rcases hb with hb | hb
      · exact .inl hb
      · have := HSZ.out
        exact .inr ⟨by omega, by rw [World.size_setCell]; omega⟩
set_option maxHeartbeats 1000000 in
theorem fork_any (h : RepT w T S pb sb F) (p q : Int) :
    Calls Try.prog 13 #[.pointer (some ⟨T, 0, none⟩), .int .i64 p, .int .i64 q] w fun e w' => e = .returned (.int .i64 (forkE S p q)) ∧ RT w' T (forkS S p q) (ext F w w') ∧ Keep F w w' := by
  rcases mayE_cases S p with ⟨hm, _⟩ | ⟨hm, p, rfl, hp, hh⟩
  · have hE : forkE S p q = 5 := by unfold forkE; rw [if_pos hm]
    have hS : forkS S p q = S := by unfold forkS; rw [hE]; rfl
    rw [hE, hS]
    have H1 := Lib.hid (of_err h p hm)
    have HH := Lib.hid h
    clear h hm hE hS
    go_enter Try.func13, Try.ntmps13
    go_wp2_with fail
    refine H1.out.mono ?_
    rintro e w' ⟨rfl, rfl⟩
    go_wp2
    go_ret
    exact ⟨rfl, ⟨_, _, HH.out.more fun _ hb => .inl hb⟩, Keep.refl _ _⟩
  · have hE : forkE S p q = freshE S q := by unfold forkE; rw [if_neg (by rw [hm]; decide)]
    by_cases hf : freshE S q = 0
    · obtain ⟨q, rfl, hq, hhq⟩ : ∃ q' : Nat, q = q' ∧ q' < 6 ∧ S.has q' = false := by
        rcases freshE_cases S q with ⟨he, _⟩ | ⟨_, _, _, _, he⟩ | ⟨q', h1, h2, h3, _⟩
        · rw [hf] at he; cases he
        · rw [hf] at he; cases he
        · exact ⟨q', h1, h2, h3⟩
      have hS : forkS S p q = S.fork p q := by unfold forkS; rw [hE, hf]; rfl
      rw [hE, hS, hf]
      exact fork_ok h p q hp hq hh hhq
    · have hS : forkS S p q = S := by unfold forkS; rw [hE, if_neg hf]
      rw [hE, hS]
      have H1 := Lib.hid (of_ok h p hp hh)
      have H2 := Lib.hid (fresh_any h q)
      have hne : (freshE S q == 0) = false := by simpa using hf
      have HH := Lib.hid h
      clear h hm hE hS hh hf
      generalize freshE S q = er at *
      go_enter Try.func13, Try.ntmps13
      go_wp2_with fail
      refine H1.out.mono ?_
      rintro e w' ⟨rfl, rfl⟩
      go_wp2_with fail
      refine H2.out.mono ?_
      rintro e w' ⟨rfl, rfl⟩
      go_wp2
      go_ret
      exact ⟨rfl, ⟨_, _, HH.out.more fun _ hb => .inl hb⟩, Keep.refl _ _⟩
end
set_option maxHeartbeats 400000 in
theorem new_any (w : World) :
    Calls Try.prog 9 #[] w fun e w' => ∃ T, e = .returned (.pointer (some ⟨T, 0, none⟩)) ∧ RT w' T St.init (fun b => b = w.heap.size) ∧ Keep (fun _ => False) w w' ∧ w'.heap.size = w.heap.size + 1 := by
  have hl : ∀ n, ¬ Live St.init n := fun n hn => by
    obtain ⟨p, k, _, _, h⟩ := cnt_of_pos hn.2
    exact hn.1 (by simpa [St.init] using h.symm)
  have hR : Hid (RepT (w.alloc (.cells #[.pointer none, .pointer none, .pointer none, .pointer none, .pointer none, .pointer none] 64)) w.heap.size St.init (fun _ => 0) (fun _ => 0) (fun b => b = w.heap.size)) :=
    ⟨St.Inv.init, Blk.new w 64 (row 6 (fun _ => .pointer none)), fun p _ hh => (by cases hh), fun n hn => (hl n hn).elim, fun p q _ _ hh => (by cases hh), fun n m hn => (hl n hn).elim, rfl, fun p _ hh => (by cases hh), fun n hn => (hl n hn).elim⟩
  clear hl
  go_enter Try.func9, Try.ntmps9
  go_wp2
  go_ret
  exact ⟨_, rfl, ⟨_, _, hR.out⟩, (Keep.refl _ w).alloc _, by simp⟩
end Go.Proofs.Ytdiginkpclbmdaa
