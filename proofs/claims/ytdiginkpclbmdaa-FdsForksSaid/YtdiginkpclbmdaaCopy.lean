/- The walk of Copy. -/
import Derived.Test.YtdiginkpclbmdaaCopyStep
import Derived.BigQuiet
import Derived.Deep.QuietTactic
import Derived.Deep.RegionHeld3
namespace Go.Proofs.Ytdiginkpclbmdaa
open Go.RowKit
attribute [local go_sem] cell_alloc_some frozen_alloc_some
theorem idx62 (c : Nat → Value) (k : Nat) (hk : k < 6) (w : World) : (Instr.index 62 (.agg #[c 0, c 1, c 2, c 3, c 4, c 5]) (.int .i64 k)).run Try.prog w = .ok (c k) w := by
  rcases (by omega : k = 0 ∨ k = 1 ∨ k = 2 ∨ k = 3 ∨ k = 4 ∨ k = 5) with rfl | rfl | rfl | rfl | rfl | rfl <;> kernel_rfl
theorem CInv.start (w : World) (S : St) (sb : Nat → Nat) :
    CInv w (((w.alloc (.cells #[.pointer none, .pointer none, .pointer none, .pointer none, .pointer none, .pointer none] 64)).alloc (.map #[] 0)).alloc (.cells #[.map (some (w.heap.size + 1))] 77)) w.heap.size (w.heap.size + 1) (w.heap.size + 1 + 1) S sb (fun _ => 0) [] 0 0 0 := by
  have hb := Blk.new w 64 (row 6 (fun _ => .pointer none))
  refine ⟨?_, Nat.le_refl _, ⟨#[], 0, ?_, rfl⟩, ?_, ⟨fun x hx => (List.not_mem_nil hx).elim, fun x hx => (List.not_mem_nil hx).elim⟩, fun j hj => by omega, fun h => by omega, fun j hj => by omega, fun i j hi => by omega, fun j i hji => by omega, ((Keep.refl none_ w).alloc _).alloc _ |>.alloc _⟩
  · have := (hb.alloc (.map #[] 0)).alloc (.cells #[.map (some (w.heap.size + 1))] 77)
    have e : row 6 (fun j => if j < 0 then tcell S (fun _ => 0) j else .pointer none) = row 6 (fun _ => .pointer none) := row_congr fun j _ => by rw [if_neg (by omega)]
    rw [e]; exact this
  · have h1 := heap_alloc_new (w.alloc (.cells #[.pointer none, .pointer none, .pointer none, .pointer none, .pointer none, .pointer none] 64)) (.map #[] 0)
    rw [World.size_alloc] at h1
    exact (Below.heap_alloc _ _ _ (by simp)).trans h1
  · have := Blk.new ((w.alloc (.cells #[.pointer none, .pointer none, .pointer none, .pointer none, .pointer none, .pointer none] 64)).alloc (.map #[] 0)) 77 [.map (some (w.heap.size + 1))]
    rw [World.size_alloc, World.size_alloc] at this
    exact this.cell_of rfl
theorem fM_of_some {b : Nat} : ∀ {M : List (Nat × Nat)} {i : Nat} {y : Nat × Value}, fM b M i = some y → ∃ x ∈ M, x.1 = b
  | [], _, _, h => by cases h
  | x :: M, i, y, h => by
    unfold fM at h
    by_cases hx : x.1 = b
    · exact ⟨x, by simp, hx⟩
    · rw [if_neg hx] at h
      obtain ⟨z, hz, hzb⟩ := fM_of_some h
      exact ⟨z, List.mem_cons_of_mem _ hz, hzb⟩
theorem CInv.drewN {w wr : World} {T' m c : Nat} {S : St} {sb pb' : Nat → Nat} {M : List (Nat × Nat)} {q p k : Nat} (h : CInv w wr T' m c S sb pb' M q p k) (hpq : q = p ∨ q = p + 1 ∧ S.has p = true) (n : Nat) : CInv w (wr.drewN n) T' m c S sb pb' M q p k :=
  h.still (Keep.ofDrew (S := none_) n wr) id id id (fun _ _ => id) (fun _ _ _ => id) (fun _ hb => hb.elim) hpq
theorem twin_any {w wr : World} {T T' m c : Nat} {S : St} {pb sb pb' : Nat → Nat} {F : Nat → Prop} {M : List (Nat × Nat)} {p k : Nat} (h : CInv w wr T' m c S sb pb' M (p + 1) p k) (hr : RepT w T S pb sb F) (hp : p < 6) (hk : k < 8) (hcm : c ≠ m) (hmw : w.heap.size ≤ m) :
    Calls Try.prog 38 #[pcell S sb p k, .pointer (some ⟨c, 0, none⟩)] wr fun e wr' => ∃ M', e = .returned (pcell S (fun n => lk M' (sb n)) p k) ∧ CInv w wr' T' m c S sb pb' M' (p + 1) p k ∧ (S.fd p k ≠ 0 → ∃ x ∈ M', x.1 = sb (S.fd p k)) := by
  by_cases hf : S.fd p k = 0
  · rw [pcell_none hf]
    refine (cp_none wr c).mono ?_
    rintro e w' ⟨rfl, rfl⟩
    exact ⟨M, by rw [pcell_none hf], h, fun h0 => absurd hf h0⟩
  · rw [pcell_some hf]
    have hl := live_of hp hk hf
    have hM : ∀ x ∈ M, Plain wr x.1 := fun x hx => by
      obtain ⟨n, h1, h2, _, _⟩ := h.minv.mem x hx
      exact ⟨_, _, by rw [h2]; exact (hr.shr n h1).keep h.keep id⟩
    have hb := (hr.shr _ hl).keep h.keep id
    by_cases hx : ∃ x ∈ M, x.1 = sb (S.fd p k)
    · obtain ⟨j, hj⟩ := fM_some (i := 0) hx
      refine (cp_old h.cel h.map ⟨_, _, hb⟩ hM hj).mono ?_
      rintro e w' ⟨rfl, rfl⟩
      exact ⟨M, by rw [pcell_some hf], h, fun _ => hx⟩
    · have hn : fM (sb (S.fd p k)) M 0 = none := by
        cases hc : fM (sb (S.fd p k)) M 0 with
        | none => rfl
        | some y => exact absurd (fM_of_some hc) hx
      refine (cp_new h.cel h.map hb hM hn).mono ?_
      rintro e w' ⟨rfl, hb', hm', hk', hs'⟩
      refine ⟨M ++ [(sb (S.fd p k), wr.heap.size)], ?_, h.pair hl hk' hm' hb' (Nat.le_refl _) hcm hmw, fun _ => ⟨_, List.mem_append_right _ (List.mem_singleton.2 rfl), rfl⟩⟩
      rw [pcell_some hf, lk_new (fM_none hn)]
set_option maxHeartbeats 1000000 in
theorem copy_any {w : World} {T : Nat} {S : St} {pb sb : Nat → Nat} {F : Nat → Prop} (h : RepT w T S pb sb F) :
    Calls Try.prog 24 #[.pointer (some ⟨T, 0, none⟩)] w fun e w' => ∃ T', e = .returned (.pointer (some ⟨T', 0, none⟩)) ∧ RT w' T' S (fun b => w.heap.size ≤ b ∧ b < w'.heap.size) ∧ Keep none_ w w' := by
  obtain ⟨tc, htc⟩ : ∃ tc, tc = (row 6 (tcell S pb)).toArray := ⟨_, rfl⟩
  have hT : w.heap[T]? = some (.cells tc 64 (0, 0)) := by rw [htc]; exact h.tab
  have hsz : tc.size = 6 := by rw [htc]; simp [row]
  have hi62 : (Try.prog.info? 62).map (·.size) = some 6 := by kernel_rfl
  obtain ⟨e62, hu62⟩ : ∃ e, Try.prog.underlying 62 = some (.array 6 e) := ⟨_, Try.underlying62⟩
  have HT := Lib.hid hT
  have HI := Lib.hid hi62
  have HU := Lib.hid hu62
  have HTC := Lib.hid htc
  have HH := Lib.hid h
  have HST := Lib.hid (CInv.start w S sb)
  clear h hT htc hi62 hu62
  have hmk := fun w => run_makeMap (P := Try.prog) 77 w
  go_enter Try.func24, Try.ntmps24
  have hk3 : Keep none_ w (((w.alloc (.cells #[.pointer none, .pointer none, .pointer none, .pointer none, .pointer none, .pointer none] 64)).alloc (.map #[] 0)).alloc (.cells #[.map (some (w.heap.size + 1))] 77)) := (((Keep.refl none_ w).alloc _).alloc _).alloc _
  have ht3 := (hk3.block T HH.out.tab.lt id).trans HT.out
  have HT3 := Lib.hid ht3
  clear hk3 ht3
  go_wp2_with (refine wpList_load_row rfl _ _ rfl T rfl 64 tc (0, 0) _ HT3.out HU.out rfl (by rw [HI.out, hsz]) ?_)
  clear hmk HT3
  go_loopw [20] (fun x wr => ∃ p : Nat, p ≤ 6 ∧ x = .int .i64 p ∧ Hid (∃ pb' M, CInv w wr w.heap.size (w.heap.size + 1) (w.heap.size + 1 + 1) S sb pb' M p p 0)) (fun x _ => 6 - (intOf x).toNat)
  case atStart => exact ⟨0, by omega, rfl, _, _, HST.out⟩
  case round =>
    obtain ⟨p, hp, rfl, HP⟩ := hrel
    obtain ⟨pb', M, hc⟩ := HP.out
    have HC := Lib.hid hc
    clear hc HP
    by_cases hp6 : p < 6
    · have i0 : (0 : Int) ≤ (p : Int) := by omega
      have i1 : (p : Int) < 6 := by omega
      have hix : ∀ wr, (Instr.index 62 (.agg tc) (.int .i64 p)).run Try.prog wr = .ok (tcell S pb p) wr := fun wr => by rw [HTC.out]; exact idx62 (tcell S pb) p hp6 wr
      cases hh : S.has p with
      | false =>
        rw [tcell_none hh] at hix
        have HN := Lib.hid (HC.out.skip HH.out.inv hp6 hh)
        clear hh
        go_wp2
        go_roundw
        case rel => exact ⟨p + 1, by omega, by go_num, _, _, HN.out⟩
        case measure => simp [intOf]; omega
      | true =>
        rw [tcell_some hh] at hix
        have HPR := Lib.hid (HH.out.proc p hp6 hh)
        have hct := HC.out.tab.cell_of (row_get _ hp6)
        have hzt := HC.out.tab.frozen p
        rw [if_neg (by omega)] at hct
        have HN := Lib.hid (HC.out.begun hp6 hh (Nat.le_refl _))
        have HHH := Lib.hid hh
        have HLT := Lib.hid HC.out.tab.lt
        clear hh
        go_wp2
        obtain ⟨pbn, hpbn⟩ : ∃ f, f = upd pb' p wr.heap.size := ⟨_, rfl⟩
        rw [← hpbn] at HN
        clear hpbn
        go_loopw [34] (fun x W => ∃ k : Nat, k ≤ 8 ∧ x = .int .i64 k ∧ Hid (∃ M, CInv w W w.heap.size (w.heap.size + 1) (w.heap.size + 1 + 1) S sb pbn M (p + 1) p k)) (fun x _ => 8 - (intOf x).toNat)
        case atStart => exact ⟨0, by omega, rfl, _, by rw [World.setCell_alloc_past _ _ _ _ HLT.out]; exact HN.out⟩
        case round =>
          obtain ⟨k, hk, rfl, HP⟩ := hrel
          obtain ⟨M, hc⟩ := HP.out
          have HC := Lib.hid hc
          clear hc HP
          by_cases hk8 : k < 8
          · have j0 : (0 : Int) ≤ (k : Int) := by omega
            have j1 : (k : Int) < 8 := by omega
            have hpv := (HPR.out.keep HC.out.keep id).cell_of (row_get _ hk8)
            obtain ⟨pv, hpve⟩ : ∃ pv, pv = pcell S sb p k := ⟨_, rfl⟩
            rw [← hpve] at hpv
            have HPV := Lib.hid hpve
            clear hpve
            go_wp2_with fail
            go_quiet (fail)
            go_wp2_with fail
            have hd := (HC.out.drewN (.inr ⟨rfl, HHH.out⟩) nq).drewN (.inr ⟨rfl, HHH.out⟩) 1
            have hdc := hd.tab.cell_of (row_get _ hp6)
            rw [if_pos (by omega), tcell_some HHH.out] at hdc
            have htw := twin_any hd HH.out hp6 hk8 (by omega) (by omega)
            rw [← HPV.out] at htw
            have HTW : Hid (Calls Try.prog 38 #[pv, .pointer (some ⟨w.heap.size + 1 + 1, 0, none⟩)] _ fun e wr' => ∃ M' po, e = .returned (.pointer po) ∧ Hid (.pointer po = pcell S (fun n => lk M' (sb n)) p k) ∧ CInv w wr' w.heap.size (w.heap.size + 1) (w.heap.size + 1 + 1) S sb pbn M' (p + 1) p k ∧ (S.fd p k ≠ 0 → ∃ x ∈ M', x.1 = sb (S.fd p k))) := htw.mono fun e w' ⟨M', he, hr⟩ => ⟨M', _, he, rfl, hr⟩
            clear htw
            have HD := Lib.hid hd
            have hne1 : w.heap.size ≠ pbn p := hd.tab.ne_ (hd.cur rfl) (by decide)
            have hne2 : pbn p ≠ w.heap.size := Ne.symm hne1
            clear hd hpv
            obtain ⟨W1, hW1⟩ : ∃ W1, W1 = wr.drewN nq := ⟨_, rfl⟩
            rw [← hW1] at hdc HTW HD ⊢
            clear hW1
            change W1.drew.cell? _ = _ at hdc
            go_region_held3 (fun W => W.cell? ⟨w.heap.size, p, none⟩ = some (.pointer (some ⟨pbn p, 0, none⟩)))
              (first | exact ⟨hdc⟩ | exact ⟨t0⟩ | go_keep)
              (first | (go_at_call 38; refine Calls.mono (by exact HTW.out) ?_; rintro e w' ⟨M', po, rfl, HPO, hc', hs'⟩; have t0 := hc'.tab.cell_of (row_get _ hp6); rw [if_pos (by omega), tcell_some HHH.out] at t0; have x0 := (hc'.cur rfl).cell_of (row_get _ hk8); have y0 := (hc'.cur rfl).frozen k; rw [if_neg (by omega)] at x0; have HC' := Lib.hid hc'; have HS' := Lib.hid hs'; clear hc' hs'))
            have hnx := HC'.out.lay hk8 HHH.out HS'.out
            rw [← HPO.out] at hnx
            have HNX := Lib.hid hnx
            clear hnx t0 x0 y0 HC'
            go_wp2
            go_roundw
            case rel => exact ⟨k + 1, by omega, by go_num, _, HNX.out⟩
            case measure => simp [intOf]; omega
          · obtain rfl : k = 8 := by omega
            have HW := Lib.hid HC.out.whole
            go_wp2
            go_roundw
            case rel => exact ⟨p + 1, by omega, by go_num, _, _, HW.out⟩
            case measure => simp [intOf]; omega
    · have HA := Lib.hid (HC.out)
      obtain rfl : p = 6 := by omega
      have HR := Lib.hid (HC.out.all HH.out)
      have HK := Lib.hid HC.out.keep
      go_wp2
      go_ret
      exact ⟨_, rfl, HR.out, HK.out⟩
end Go.Proofs.Ytdiginkpclbmdaa
