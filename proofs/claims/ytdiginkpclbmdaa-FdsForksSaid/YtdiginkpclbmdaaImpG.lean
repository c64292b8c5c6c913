/- The walks of Open and Dup. -/
import Derived.Test.YtdiginkpclbmdaaImpF
import Derived.Deep.RegionHeld3
namespace Go.Proofs.Ytdiginkpclbmdaa
open Go.RowKit
attribute [local go_sem] cell_alloc_some frozen_alloc_some
def badKind (o : Op3) : Bool := decide (o.kind = 0) || decide (3 < o.kind)
def openE (S : St) (p : Int) (o : Op3) : Int × Int := if mayE S p = 5 then (0, 5) else if badKind o = true then (0, 2) else if S.free p.toNat < 8 then (S.free p.toNat, 0) else (0, 11)
def openS (S : St) (p : Int) (o : Op3) : St := if (openE S p o).2 = 0 then (S.push o).give p.toNat (S.all.length + 1) else S
def dupE (S : St) (p k : Int) : Int × Int := if atE S p k ≠ 0 then (0, atE S p k) else if S.free p.toNat < 8 then (S.free p.toNat, 0) else (0, 11)
def dupS (S : St) (p k : Int) : St := if (dupE S p k).2 = 0 then S.give p.toNat (S.fd p.toNat k.toNat) else S
def closeE (S : St) (p k : Int) : Op3 × Bool := if atE S p k = 0 then (S.what (S.fd p.toNat k.toNat), cnt (S.close p.toNat k.toNat).fd (S.fd p.toNat k.toNat) == 0) else (zero3, false)
def closeS (S : St) (p k : Int) : St := if atE S p k = 0 then S.close p.toNat k.toNat else S
section
variable {w w' : World} {T : Nat} {S : St} {pb sb : Nat → Nat} {F : Nat → Prop}
theorem cnt_new {S : St} (h : S.Inv) {n : Nat} (hn : S.all.length < n) : cnt S.fd n = 0 :=
  cntB_zero 48 fun i hi => by
    have := h.le (i / 8) (i % 8) (by omega) (by omega)
    simp; omega
theorem RepT.pushed (h : RepT w T S pb sb F) (o : Op3) :
    RepT (w.alloc (.cells (shc o 0).toArray 72)) T (S.push o) pb (fun n => if n = S.all.length + 1 then w.heap.size else sb n) (fun b => F b ∨ b = w.heap.size) := by
  have hl : ∀ n, Live (S.push o) n → n ≠ S.all.length + 1 := fun n hn => by have := live_le h.inv (S := S) (n := n) hn; omega
  refine ⟨h.inv.push o, h.tab.alloc _, fun p hp hh => ?_, fun n hn => ?_, h.inj, fun n m hn hm e => ?_, .inl h.footT, fun p hp hh => .inl (h.footP p hp hh), fun n hn => ?_⟩
  · have e : row 8 (pcell (S.push o) (fun n => if n = S.all.length + 1 then w.heap.size else sb n) p) = row 8 (pcell S sb p) := by
      refine row_congr fun k hk => ?_
      have := h.inv.le p k hp hk
      show ptr? (S.fd p k != 0) (if S.fd p k = S.all.length + 1 then w.heap.size else sb (S.fd p k)) = _
      rw [if_neg (by omega)]; rfl
    rw [e]; exact (h.proc p hp hh).alloc _
  · rw [if_neg (hl n hn)]
    have hn' : Live S n := hn
    have := live_le h.inv hn'
    have e : (S.push o).what n = S.what n := by
      unfold St.what St.push
      simp only [List.getD_eq_getElem?_getD]
      rw [List.getElem?_append_left (by omega)]
    rw [e]; exact (h.shr n hn').alloc _
  · rw [if_neg (hl n hn), if_neg (hl m hm)] at e
    exact h.sinj n m hn hm e
  · rw [if_neg (hl n hn)]; exact .inl (h.footS n hn)
set_option maxHeartbeats 1000000 in
theorem open_any (h : RepT w T S pb sb F) (p : Int) (o : Op3) :
    Calls Try.prog 14 #[.pointer (some ⟨T, 0, none⟩), .int .i64 p, opv o] w fun e w' => e = .returned (.tuple #[.int .i64 (openE S p o).1, .int .i64 (openE S p o).2]) ∧ RT w' T (openS S p o) (ext F w w') ∧ Keep F w w' := by
  have h1 := h.keep0 ((Keep.refl _ w).alloc (.cells #[.int .u8 o.kind, .int .i64 o.ref, .int .i64 o.pos] 30))
  unfold opv
  rcases mayE_cases S p with ⟨hm, _⟩ | ⟨hm, q, rfl, hq, hh⟩
  · have he : openE S p o = (0, 5) := by unfold openE; rw [if_pos hm]
    have hs : openS S p o = S := by unfold openS; rw [he]; rfl
    rw [he, hs]
    have H1 := Lib.hid (of_err h1 p hm)
    have HH := Lib.hid h1
    clear he hs hm h h1
    go_enter Try.func14, Try.ntmps14
    go_wp2_with fail
    refine H1.out.mono ?_
    rintro e w' ⟨rfl, rfl⟩
    go_wp2
    go_ret2
    exact ⟨rfl, ⟨pb, sb, HH.out.more fun _ hb => .inl hb⟩, (Keep.refl _ w).alloc _⟩
  · have H1 := Lib.hid (of_ok h1 q hq hh)
    have hb : Blk (w.alloc (.cells #[.int .u8 o.kind, .int .i64 o.ref, .int .i64 o.pos] 30)) w.heap.size 30 (opc o) := Blk.new w 30 (opc o)
    have c0 := hb.cell_of (i := 0) rfl
    have c1 := hb.cell_of (i := 1) rfl
    have c2 := hb.cell_of (i := 2) rfl
    have HH := Lib.hid h1
    by_cases hk : badKind o = true
    · have he : openE S q o = (0, 2) := by unfold openE; rw [if_neg (by rw [hm]; decide), if_pos hk]
      have hs : openS S q o = S := by unfold openS; rw [he]; rfl
      rw [he, hs]
      clear he hs hm h h1 hb
      have hk' : o.kind = 0 ∨ 3 < o.kind := by simpa [badKind] using hk
      clear hk
      by_cases hz : o.kind = 0
      · have hz1 : (o.kind == 0) = true := by simpa using hz
        clear hk' hz
        go_enter Try.func14, Try.ntmps14
        go_wp2_with fail
        refine H1.out.mono ?_
        rintro e w' ⟨rfl, rfl⟩
        go_wp2
        go_ret2
        exact ⟨rfl, ⟨pb, sb, HH.out.more fun _ hb => .inl hb⟩, (Keep.refl _ w).alloc _⟩
      · have hz1 : (o.kind == 0) = false := by simpa using hz
        have hz2 : o.kind > 3 := by omega
        clear hk' hz
        go_enter Try.func14, Try.ntmps14
        go_wp2_with fail
        refine H1.out.mono ?_
        rintro e w' ⟨rfl, rfl⟩
        go_wp2
        go_ret2
        exact ⟨rfl, ⟨pb, sb, HH.out.more fun _ hb => .inl hb⟩, (Keep.refl _ w).alloc _⟩
    · have hk' : ¬ (o.kind = 0 ∨ 3 < o.kind) := by simpa [badKind] using hk
      have hz1 : (o.kind == 0) = false := by simp; omega
      have hz2 : ¬ o.kind > 3 := by omega
      clear hk'
      have hp2 := h1.pushed o
      have hnew : cnt S.fd (S.all.length + 1) = 0 := cnt_new h.inv (by omega)
      have hbn : Blk ((w.alloc (.cells #[.int .u8 o.kind, .int .i64 o.ref, .int .i64 o.pos] 30)).alloc (.cells (shc o 0).toArray 72)) (w.heap.size + 1) 72 (shc o 0) := by
        have := Blk.new (w.alloc (.cells #[.int .u8 o.kind, .int .i64 o.ref, .int .i64 o.pos] 30)) 72 (shc o 0)
        rwa [World.size_alloc] at this
      by_cases hf : S.free q < 8
      · have he : openE S q o = ((S.free q : Int), 0) := by unfold openE; rw [if_neg (by rw [hm]; decide), if_neg hk]; exact if_pos hf
        have hs : openS S q o = (S.push o).give q (S.all.length + 1) := by unfold openS; rw [he]; rfl
        rw [he, hs]
        have hg := give_ok hp2 q (S.all.length + 1) hq hf hh (by omega) (by simp [St.push]) (by
            rw [if_pos rfl]
            have : (S.push o).what (S.all.length + 1) = o := by simp [St.what, St.push]
            rw [this, show cnt (S.push o).fd (S.all.length + 1) = 0 from hnew, World.size_alloc]
            exact hbn)
          (by rw [if_pos rfl]; exact .inr rfl) (by
            intro m hm e
            have := live_le h.inv (S := S) (n := m) hm
            rw [if_neg (by omega), if_pos rfl] at e
            have := (h1.shr m hm).lt
            simp at this e; omega)
        rw [if_pos rfl, World.size_alloc] at hg
        have HG := Lib.hid hg
        clear hg he hs hm h h1 hb hp2 hbn hnew hk
        go_enter Try.func14, Try.ntmps14
        go_wp2_with fail
        refine H1.out.mono ?_
        rintro e w' ⟨rfl, rfl⟩
        go_wp2_with fail
        refine HG.out.mono ?_
        rintro e w' ⟨rfl, hr, hk⟩
        have HR := Lib.hid hr; have HK := Lib.hid hk; clear hr hk
        go_wp2
        go_ret2
        have hsz := HK.out.size
        simp only [World.size_alloc] at hsz
        refine ⟨rfl, ⟨_, _, HR.out.more fun b hb => ?_⟩, ?_⟩
        · rcases hb with hb | hb
          · exact .inl hb
          · exact .inr ⟨by omega, by omega⟩
        · have hk2 := ((Keep.refl F w).alloc (.cells #[.int .u8 o.kind, .int .i64 o.ref, .int .i64 o.pos] 30)).alloc (.cells (shc o 0).toArray 72)
          exact ⟨HK.out.os, HK.out.tape, HK.out.output, Nat.le_trans hk2.size HK.out.size, fun k hk hs => (HK.out.block k (by simp; omega) (by rintro (h | h); exact hs h; omega)).trans (hk2.block k hk hs)⟩
      · have he : openE S q o = (0, 11) := by unfold openE; rw [if_neg (by rw [hm]; decide), if_neg hk]; exact if_neg hf
        have hs : openS S q o = S := by unfold openS; rw [he]; rfl
        rw [he, hs]
        have h2 := h1.keep0 ((Keep.refl _ _).alloc (.cells (shc o 0).toArray 72))
        have HG := Lib.hid (give_full h2 q (some ⟨w.heap.size + 1, 0, none⟩) hq hf hh)
        have HH2 := Lib.hid h2
        clear he hs hm h h1 hb hp2 hbn hnew hk h2 HH
        go_enter Try.func14, Try.ntmps14
        go_wp2_with fail
        refine H1.out.mono ?_
        rintro e w' ⟨rfl, rfl⟩
        go_wp2_with fail
        refine HG.out.mono ?_
        rintro e w' ⟨rfl, rfl⟩
        go_wp2
        go_ret2
        exact ⟨rfl, ⟨pb, sb, HH2.out.more fun _ hb => .inl hb⟩, ((Keep.refl _ w).alloc _).alloc _⟩
set_option maxHeartbeats 1000000 in
theorem dup_any (h : RepT w T S pb sb F) (p k : Int) :
    Calls Try.prog 15 #[.pointer (some ⟨T, 0, none⟩), .int .i64 p, .int .i64 k] w fun e w' => e = .returned (.tuple #[.int .i64 (dupE S p k).1, .int .i64 (dupE S p k).2]) ∧ RT w' T (dupS S p k) (ext F w w') ∧ Keep F w w' := by
  by_cases he : atE S p k = 0
  · obtain ⟨q, j, rfl, rfl, hq, hj, hh, hf⟩ := at_ok_cases S p k he
    have hl := live_of hq hj hf
    have H1 := Lib.hid (at_ok h q j hq hj hh hf)
    have hrn : ∀ n, RepT (w.drewN n) T S pb sb F := fun n => h.keep0 (Keep.ofDrew n w)
    by_cases h8 : S.free q < 8
    · have hd : dupE S q j = ((S.free q : Int), 0) := by unfold dupE; rw [if_neg (by simpa using he)]; exact if_pos h8
      have hs : dupS S q j = S.give q (S.fd q j) := by unfold dupS; rw [hd]; rfl
      rw [hd, hs]
      have HG := Lib.hid (fun n => give_ok (hrn n) q (S.fd q j) hq h8 hh hf (h.inv.le q j hq hj) ((hrn n).shr _ hl) (h.footS _ hl) (fun m hm e => h.sinj _ _ hm hl e))
      clear hd hs h hrn he hl hf hh
      go_enter Try.func15, Try.ntmps15
      go_wp2_with fail
      refine H1.out.mono ?_
      rintro e w' ⟨rfl, n, rfl⟩
      go_wp2_with fail
      refine (HG.out n).mono ?_
      rintro e w' ⟨rfl, hr, hk⟩
      have HR := Lib.hid hr; have HK := Lib.hid hk; clear hr hk
      go_wp2
      go_ret2
      exact ⟨rfl, ⟨_, _, HR.out.more fun _ hb => .inl hb⟩, (Keep.ofDrew n w).trans HK.out⟩
    · have hd : dupE S q j = (0, 11) := by unfold dupE; rw [if_neg (by simpa using he)]; exact if_neg h8
      have hs : dupS S q j = S := by unfold dupS; rw [hd]; rfl
      rw [hd, hs]
      have HG := Lib.hid (fun n => give_full (hrn n) q (some ⟨sb (S.fd q j), 0, none⟩) hq h8 hh)
      have HR := Lib.hid hrn
      clear hd hs h hrn he hl hf hh
      go_enter Try.func15, Try.ntmps15
      go_wp2_with fail
      refine H1.out.mono ?_
      rintro e w' ⟨rfl, n, rfl⟩
      go_wp2_with fail
      refine (HG.out n).mono ?_
      rintro e w' ⟨rfl, rfl⟩
      go_wp2
      go_ret2
      exact ⟨rfl, ⟨_, _, (HR.out n).more fun _ hb => .inl hb⟩, Keep.ofDrew n w⟩
  · have hd : dupE S p k = (0, atE S p k) := by unfold dupE; rw [if_pos he]
    have hs : dupS S p k = S := by unfold dupS; rw [hd]; exact if_neg he
    rw [hd, hs]
    have H1 := Lib.hid (at_err h p k he)
    have hne : (atE S p k == 0) = false := by simpa using he
    have HH := Lib.hid h
    clear h hd hs
    generalize atE S p k = er at *
    go_enter Try.func15, Try.ntmps15
    go_wp2_with fail
    refine H1.out.mono ?_
    rintro e w' ⟨rfl, rfl⟩
    go_wp2
    go_ret2
    exact ⟨rfl, ⟨_, _, HH.out.more fun _ hb => .inl hb⟩, Keep.refl _ _⟩
end
end Go.Proofs.Ytdiginkpclbmdaa
