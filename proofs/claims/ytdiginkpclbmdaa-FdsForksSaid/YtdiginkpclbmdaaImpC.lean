/- The walks of Index, release, give, and what they do to the table. -/
import Derived.Test.YtdiginkpclbmdaaImpB
namespace Go.Proofs.Ytdiginkpclbmdaa
open Go.RowKit
theorem nil_eql (a : Addr) (w : World) : (binOp .eql 65 (.pointer none) (.pointer (some a))).run Try.prog w = .ok (.bool false) w := by kernel_rfl
section
variable {w : World} {T : Nat} {S : St} {pb sb : Nat → Nat} {F : Nat → Prop}
set_option maxHeartbeats 400000 in
theorem index_any (h : RepT w T S pb sb F) (p : Nat) (hp : p < 6) (hh : S.has p = true) :
    Calls Try.prog 47 #[.slice (some ⟨pb p, 0, none⟩) 8 8, .pointer none] w fun e w' => e = .returned (.int .i64 (if S.free p < 8 then (S.free p : Int) else -1)) ∧ w = w' := by
  have hle := S.free_le p
  obtain ⟨r, hr⟩ : ∃ r : Int, r = if S.free p < 8 then (S.free p : Int) else -1 := ⟨_, rfl⟩
  rw [← hr]
  have HR := Lib.hid hr; clear hr
  go_enter Try.func47, Try.ntmps47
  go_wp2
  go_loop [8] (fun v => ∃ k : Nat, k ≤ S.free p ∧ v = .int .i64 k) (fun v => 8 - (intOf v).toNat)
  case atStart => exact ⟨0, by omega, rfl⟩
  case round =>
    obtain ⟨k, hk, rfl⟩ := hrel
    by_cases h8 : k < 8
    · have hc := h.cellP hp hh h8
      by_cases hkf : k < S.free p
      · rw [pcell_some (S.free_ne p hkf)] at hc
        have heq := nil_eql ⟨sb (S.fd p k), 0, none⟩
        go_wp2
        go_round
        case rel => exact ⟨k + 1, by omega, by go_num⟩
        case measure => simp [intOf]; omega
      · obtain rfl : k = S.free p := by omega
        rw [pcell_none (S.free_zero p h8)] at hc
        have HR2 : Hid (r = (S.free p : Int)) := by rw [HR.out, if_pos h8]; exact Lib.hid rfl
        clear HR
        generalize S.free p = k at *
        go_wp2
        go_ret
        exact ⟨by rw [HR2.out]; rfl, rfl⟩
    · have HR2 : Hid (r = -1) := by rw [HR.out, if_neg (by omega)]; exact Lib.hid rfl
      go_wp2
      go_ret
      exact ⟨by rw [HR2.out]; rfl, rfl⟩
/-- a store into a process' cell, or into what is shared: what has turned -/
theorem sh_ne (h : RepT w T S pb sb F) {p n : Nat} (hp : p < 6) (hh : S.has p = true) (hn : Live S n) : sb n ≠ pb p := (h.shr n hn).ne_ (h.proc p hp hh) (by decide)
theorem tab_ne (h : RepT w T S pb sb F) {p : Nat} (hp : p < 6) (hh : S.has p = true) : T ≠ pb p := h.tab.ne_ (h.proc p hp hh) (by decide)
theorem tab_ne_sh (h : RepT w T S pb sb F) {n : Nat} (hn : Live S n) : T ≠ sb n := h.tab.ne_ (h.shr n hn) (by decide)
/-- one descriptor is of something else -/
theorem RepT.turn (h : RepT w T S pb sb F) {p k n : Nat} (hp : p < 6) (hk : k < 8) (hh : S.has p = true) (hn : n ≤ S.all.length) {w' : World}
    (hP : Blk w' (pb p) 67 ((row 8 (pcell S sb p)).set k (ptr? (n != 0) (sb n)))) (hT : Blk w' T 64 (row 6 (tcell S pb)))
    (hO : ∀ q, q < 6 → q ≠ p → S.has q = true → Blk w' (pb q) 67 (row 8 (pcell S sb q)))
    (hS : ∀ m, m ≠ 0 → 0 < cnt (setFd S.fd p k n) m → Blk w' (sb m) 72 (shc (S.what m) (cnt (setFd S.fd p k n) m)))
    (hI : ∀ m m', m ≠ 0 → 0 < cnt (setFd S.fd p k n) m → m' ≠ 0 → 0 < cnt (setFd S.fd p k n) m' → sb m = sb m' → m = m')
    (hF : ∀ m, m ≠ 0 → 0 < cnt (setFd S.fd p k n) m → F (sb m)) : RepT w' T { S with fd := setFd S.fd p k n } pb sb F := by
  refine ⟨⟨fun q j hq hj => ?_, fun q j hq hj hf => ?_⟩, hT, fun q hq hqh => ?_, fun m hm => hS m hm.1 hm.2, h.inj, fun m m' hm hm' => hI m m' hm.1 hm.2 hm'.1 hm'.2, h.footT, h.footP, fun m hm => hF m hm.1 hm.2⟩
  · simp only [setFd]; split
    · exact hn
    · exact h.inv.le q j hq hj
  · have hqp : ¬ (q = p ∧ j = k) := by rintro ⟨rfl, _⟩; rw [hh] at hf; cases hf
    show setFd S.fd p k n q j = 0
    rw [setFd_other _ _ _ _ hqp]
    exact h.inv.none q j hq hj hf
  · by_cases e : q = p
    · subst e
      rw [row_set] at hP
      have : row 8 (pcell { S with fd := setFd S.fd q k n } sb q) = row 8 (fun j => if j = k then ptr? (n != 0) (sb n) else pcell S sb q j) := by
        refine row_congr fun j _ => ?_
        unfold pcell
        by_cases ej : j = k
        · subst ej; rw [if_pos rfl]; simp only [setFd_same]
        · rw [if_neg ej]; simp only [setFd_other _ _ _ _ (show ¬ (q = q ∧ j = k) by omega)]
      rw [this]; exact hP
    · have : row 8 (pcell { S with fd := setFd S.fd p k n } sb q) = row 8 (pcell S sb q) := by
        refine row_congr fun j _ => ?_
        unfold pcell
        simp only [setFd_other _ _ _ _ (show ¬ (q = p ∧ j = k) by omega)]
      rw [this]; exact hO q hq e hqh
theorem cnt_other (fd : Nat → Nat → Nat) {p k n m : Nat} (hp : p < 6) (hk : k < 8) (h1 : m ≠ fd p k) (h2 : m ≠ n) : cnt (setFd fd p k n) m = cnt fd m := by
  have := cnt_setFd fd p k n m hp hk
  rw [if_neg (Ne.symm h1), if_neg (Ne.symm h2)] at this
  omega
theorem cnt_out (fd : Nat → Nat → Nat) {p k : Nat} (hp : p < 6) (hk : k < 8) (h : fd p k ≠ 0) : cnt (setFd fd p k 0) (fd p k) + 1 = cnt fd (fd p k) := by
  have := cnt_setFd fd p k 0 (fd p k) hp hk
  rw [if_pos rfl, if_neg (Ne.symm h)] at this
  omega
theorem cnt_in (fd : Nat → Nat → Nat) {p k n : Nat} (hp : p < 6) (hk : k < 8) (h : fd p k = 0) (hn : n ≠ 0) : cnt (setFd fd p k n) n = cnt fd n + 1 := by
  have := cnt_setFd fd p k n n hp hk
  rw [if_neg (by rw [h]; exact Ne.symm hn), if_pos rfl] at this
  omega
/-- a descriptor is closed -/
theorem RepT.closed (h : RepT w T S pb sb F) {p k : Nat} (hp : p < 6) (hk : k < 8) (hh : S.has p = true) (hf : S.fd p k ≠ 0) :
    RepT ((w.setCell ⟨pb p, k, none⟩ (.pointer none)).setCell ⟨sb (S.fd p k), 3, none⟩ (.int .i64 (cnt (S.close p k).fd (S.fd p k)))) T (S.close p k) pb sb F ∧
      Blk ((w.setCell ⟨pb p, k, none⟩ (.pointer none)).setCell ⟨sb (S.fd p k), 3, none⟩ (.int .i64 (cnt (S.close p k).fd (S.fd p k)))) (sb (S.fd p k)) 72 (shc (S.what (S.fd p k)) (cnt (S.close p k).fd (S.fd p k))) := by
  have hl := live_of hp hk hf
  have hne := sh_ne h hp hh hl
  have hco := cnt_out S.fd hp hk hf
  have hb : Blk ((w.setCell ⟨pb p, k, none⟩ (.pointer none)).setCell ⟨sb (S.fd p k), 3, none⟩ (.int .i64 (cnt (S.close p k).fd (S.fd p k)))) (sb (S.fd p k)) 72 (shc (S.what (S.fd p k)) (cnt (S.close p k).fd (S.fd p k))) :=
    ((h.shr _ hl).far (p := ⟨pb p, k, none⟩) hne (.pointer none)).set_ 3 (.int .i64 (cnt (S.close p k).fd (S.fd p k)))
  have live : ∀ m, m ≠ 0 → 0 < cnt (setFd S.fd p k 0) m → Live S m := fun m hm hc => ⟨hm, by
    by_cases e : m = S.fd p k
    · subst e; omega
    · rw [cnt_other S.fd hp hk e hm] at hc; exact hc⟩
  refine ⟨h.turn (n := 0) hp hk hh (by omega) ?_ ?_ ?_ ?_ ?_ ?_, hb⟩
  · exact ((h.proc p hp hh).set_ k (.pointer none)).far (p := ⟨sb (S.fd p k), 3, none⟩) (Ne.symm hne) _
  · exact (h.tab.far (p := ⟨pb p, k, none⟩) (tab_ne h hp hh) _).far (p := ⟨sb (S.fd p k), 3, none⟩) (tab_ne_sh h hl) _
  · intro q hq hqp hqh
    exact ((h.proc q hq hqh).far (p := ⟨pb p, k, none⟩) (fun e => hqp (h.inj q p hq hp hqh hh e)) _).far (p := ⟨sb (S.fd p k), 3, none⟩) (Ne.symm (sh_ne h hq hqh hl)) _
  · intro m hm hc
    have hml := live m hm hc
    by_cases e : m = S.fd p k
    · subst e; exact hb
    · rw [cnt_other S.fd hp hk e hm]
      exact ((h.shr m hml).far (p := ⟨pb p, k, none⟩) (sh_ne h hp hh hml) _).far (p := ⟨sb (S.fd p k), 3, none⟩) (fun e' => e (h.sinj _ _ hml hl e')) _
  · intro m m' hm hc hm' hc' e
    exact h.sinj m m' (live m hm hc) (live m' hm' hc') e
  · intro m hm hc
    exact h.footS m (live m hm hc)
/-- a descriptor is given -/
theorem RepT.given (h : RepT w T S pb sb F) {p n : Nat} (hp : p < 6) (hk : S.free p < 8) (hh : S.has p = true) (hn : n ≠ 0) (hna : n ≤ S.all.length) (hb : Blk w (sb n) 72 (shc (S.what n) (cnt S.fd n))) (hF : F (sb n))
    (hI : ∀ m, Live S m → sb m = sb n → m = n) :
    RepT ((w.setCell ⟨pb p, S.free p, none⟩ (.pointer (some ⟨sb n, 0, none⟩))).setCell ⟨sb n, 3, none⟩ (.int .i64 (cnt S.fd n + 1))) T (S.give p n) pb sb F := by
  have hz := S.free_zero p hk
  have hne : sb n ≠ pb p := hb.ne_ (h.proc p hp hh) (by decide)
  have hci := cnt_in S.fd hp hk hz hn
  have hb' : Blk ((w.setCell ⟨pb p, S.free p, none⟩ (.pointer (some ⟨sb n, 0, none⟩))).setCell ⟨sb n, 3, none⟩ (.int .i64 (cnt S.fd n + 1))) (sb n) 72 (shc (S.what n) (cnt S.fd n + 1)) :=
    (hb.far (p := ⟨pb p, S.free p, none⟩) hne _).set_ 3 (.int .i64 (cnt S.fd n + 1))
  have live : ∀ m, m ≠ 0 → m ≠ n → 0 < cnt (setFd S.fd p (S.free p) n) m → Live S m := fun m hm hmn hc => ⟨hm, by
    rw [cnt_other S.fd hp hk (by rw [hz]; exact hm) hmn] at hc; exact hc⟩
  refine h.turn (n := n) hp hk hh hna ?_ ?_ ?_ ?_ ?_ ?_
  · have : ptr? (n != 0) (sb n) = .pointer (some ⟨sb n, 0, none⟩) := by simp [ptr?, hn]
    rw [this]
    exact ((h.proc p hp hh).set_ (S.free p) _).far (p := ⟨sb n, 3, none⟩) (Ne.symm hne) _
  · exact (h.tab.far (p := ⟨pb p, S.free p, none⟩) (tab_ne h hp hh) _).far (p := ⟨sb n, 3, none⟩) (h.tab.ne_ hb (by decide)) _
  · intro q hq hqp hqh
    exact ((h.proc q hq hqh).far (p := ⟨pb p, S.free p, none⟩) (fun e => hqp (h.inj q p hq hp hqh hh e)) _).far (p := ⟨sb n, 3, none⟩) ((h.proc q hq hqh).ne_ hb (by decide)) _
  · intro m hm hc
    by_cases e : m = n
    · subst e; rw [hci]; exact hb'
    · have hml := live m hm e hc
      rw [cnt_other S.fd hp hk (by rw [hz]; exact hm) e]
      exact ((h.shr m hml).far (p := ⟨pb p, S.free p, none⟩) (sh_ne h hp hh hml) _).far (p := ⟨sb n, 3, none⟩) (fun e' => e (hI m hml e')) _
  · intro m m' hm hc hm' hc' e
    by_cases e1 : m = n
    · by_cases e2 : m' = n
      · rw [e1, e2]
      · have := hI m' (live m' hm' e2 hc') (by rw [← e, e1]); exact absurd this e2
    · by_cases e2 : m' = n
      · have := hI m (live m hm e1 hc) (by rw [e, e2]); exact absurd this e1
      · exact h.sinj m m' (live m hm e1 hc) (live m' hm' e2 hc') e
  · intro m hm hc
    by_cases e : m = n
    · subst e; exact hF
    · exact h.footS m (live m hm e hc)
set_option maxHeartbeats 400000 in
theorem release_any (h : RepT w T S pb sb F) (p k : Nat) (hp : p < 6) (hk : k < 8) (hh : S.has p = true) (hf : S.fd p k ≠ 0) :
    Calls Try.prog 29 #[.pointer (some ⟨pb p, 0, none⟩), .int .i64 k] w fun e w' => e = .returned (.bool (cnt (S.close p k).fd (S.fd p k) == 0)) ∧ RepT w' T (S.close p k) pb sb F ∧ Keep F w w' ∧ 
      Blk w' (sb (S.fd p k)) 72 (shc (S.what (S.fd p k)) (cnt (S.close p k).fd (S.fd p k))) := by
  have hl := live_of hp hk hf
  have hne := sh_ne h hp hh hl
  have hc := h.cellP hp hh hk
  rw [pcell_some hf] at hc
  have hfz := (h.proc p hp hh).frozen k
  have hr := (h.shr _ hl).cell_of (i := 3) (v := .int .i64 (cnt S.fd (S.fd p k))) rfl
  have hrz := (h.shr _ hl).frozen 3
  have h4 : (0 : Int) ≤ (k : Int) := by omega
  have h5 : (k : Int) < 8 := by omega
  have hcn := cnt_setFd S.fd p k 0 (S.fd p k) hp hk
  rw [if_pos rfl, if_neg (Ne.symm hf)] at hcn
  have hcl := cnt_le S.fd (S.fd p k)
  have HC := Lib.hid hcn; clear hcn
  have h6 : 1 ≤ cnt S.fd (S.fd p k) := hl.2
  have h7 : cnt S.fd (S.fd p k) ≤ 48 := hcl
  have HH := Lib.hid h; clear h
  go_enter Try.func29, Try.ntmps29
  go_wp2
  go_ret
  have he : ((cnt S.fd (S.fd p k) : Nat) : Int) - 1 = ((cnt (S.close p k).fd (S.fd p k) : Nat) : Int) := by
    have := HC.out
    show _ = ((cnt (setFd S.fd p k 0) (S.fd p k) : Nat) : Int)
    omega
  rw [he]
  obtain ⟨h1, h2⟩ := HH.out.closed hp hk hh hf
  refine ⟨?_, h1, ((Keep.refl F w).setCell (.inl (HH.out.footP p hp hh)) _).setCell (.inl (HH.out.footS _ hl)) _, h2⟩
  show Ending.returned (.bool _) = _
  congr 2
  rw [Bool.eq_iff_iff]
  simp
set_option maxHeartbeats 400000 in
theorem give_ok (h : RepT w T S pb sb F) (p n : Nat) (hp : p < 6) (hk : S.free p < 8) (hh : S.has p = true) (hn : n ≠ 0) (hna : n ≤ S.all.length) (hb : Blk w (sb n) 72 (shc (S.what n) (cnt S.fd n))) (hF : F (sb n))
    (hI : ∀ m, Live S m → sb m = sb n → m = n) :
    Calls Try.prog 30 #[.pointer (some ⟨pb p, 0, none⟩), .pointer (some ⟨sb n, 0, none⟩)] w fun e w' => e = .returned (.tuple #[.int .i64 (S.free p), .int .i64 0]) ∧ RepT w' T (S.give p n) pb sb F ∧ Keep F w w' := by
  have hz := S.free_zero p hk
  have hc := h.cellP hp hh hk
  rw [pcell_none hz] at hc
  have hfz := (h.proc p hp hh).frozen (S.free p)
  have hr := hb.cell_of (i := 3) (v := .int .i64 (cnt S.fd n)) rfl
  have hrz := hb.frozen 3
  have hcl := cnt_le S.fd n
  have hne : sb n ≠ pb p := hb.ne_ (h.proc p hp hh) (by decide)
  have hix := index_any h p hp hh
  rw [if_pos hk] at hix
  have HIX := Lib.hid hix
  have HG := Lib.hid (h.given hp hk hh hn hna hb hF hI)
  have HK : Hid (Keep F w ((w.setCell ⟨pb p, S.free p, none⟩ (.pointer (some ⟨sb n, 0, none⟩))).setCell ⟨sb n, 3, none⟩ (.int .i64 (cnt S.fd n + 1)))) := ((Keep.refl F w).setCell (.inl (h.footP p hp hh)) _).setCell (.inl hF) _
  clear h hix hI hb hh hz
  generalize S.free p = k at *
  have h4 : (0 : Int) ≤ (k : Int) := by omega
  have h5 : (k : Int) < 8 := by omega
  have h6 : ¬ (k : Int) < 0 := by omega
  go_enter Try.func30, Try.ntmps30
  go_wp2_with fail
  refine HIX.out.mono ?_
  rintro e w' ⟨rfl, rfl⟩
  go_wp2
  go_ret2
  exact ⟨rfl, HG.out, HK.out⟩
set_option maxHeartbeats 400000 in
theorem give_full (h : RepT w T S pb sb F) (p : Nat) (a : Option Addr) (hp : p < 6) (hk : ¬ S.free p < 8) (hh : S.has p = true) :
    Calls Try.prog 30 #[.pointer (some ⟨pb p, 0, none⟩), .pointer a] w fun e w' => e = .returned (.tuple #[.int .i64 0, .int .i64 11]) ∧ w = w' := by
  have hix := index_any h p hp hh
  rw [if_neg hk] at hix
  have HIX := Lib.hid hix
  clear h hix hh
  go_enter Try.func30, Try.ntmps30
  go_wp2_with fail
  refine HIX.out.mono ?_
  rintro e w' ⟨rfl, rfl⟩
  go_wp2
  go_ret2
  exact ⟨rfl, rfl⟩
end
end Go.Proofs.Ytdiginkpclbmdaa
