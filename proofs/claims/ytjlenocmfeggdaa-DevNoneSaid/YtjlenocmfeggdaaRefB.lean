/- The walks of the document's memory: Fill of one frame, Fork, New. -/
import Derived.Test.YtjlenocmfeggdaaRefA
import Derived.Deep.RegionHeld3
import Derived.IntWalk
namespace Go.Proofs.Ytjlenocmfeggdaa
open Go.RowKit
attribute [local go_sem] cell_alloc_some frozen_alloc_some
def mix (f g : Nat → UInt8) (k : Nat) : Nat → UInt8 := fun j => if j < k then g j else f j
theorem mix_zero (fr : Nat → Nat → UInt8) (i : Nat) (g : Nat → UInt8) : upd2 fr i (mix (fr i) g 0) = fr := by
  funext a b
  unfold upd2 mix
  by_cases h : a = i
  · subst h; rw [if_pos rfl]; simp
  · rw [if_neg h]
theorem mix_succ (fr : Nat → Nat → UInt8) (i : Nat) (g : Nat → UInt8) (k : Nat) : upd2 (upd2 fr i (mix (fr i) g k)) i (fun j => if j = k then g k else upd2 fr i (mix (fr i) g k) i j) = upd2 fr i (mix (fr i) g (k + 1)) := by
  funext a b
  unfold upd2 mix
  by_cases h : a = i
  · subst h
    rw [if_pos rfl, if_pos rfl]
    by_cases hb : b = k
    · subst hb; simp
    · rw [if_neg hb, if_pos rfl]
      by_cases h2 : b < k
      · rw [if_pos h2, if_pos (by omega)]
      · rw [if_neg h2, if_neg (by omega)]
  · rw [if_neg h, if_neg h, if_neg h]
theorem mix_full (n : Nat) (fr : Nat → Nat → UInt8) (i : Nat) (g : Nat → UInt8) : grid n (upd2 fr i (mix (fr i) g 32)) = grid n (upd2 fr i g) := by
  unfold grid
  refine row_congr fun k _ => ?_
  unfold upd2 mix
  by_cases h : k / 32 = i
  · rw [if_pos h, if_pos h, if_pos (Nat.mod_lt _ (by decide))]
  · rw [if_neg h, if_neg h]
section
variable {w w' : World} {R M : Nat} {S : St} {v sv bv : Value} {iv : Nat → Value} {W F : Nat → Prop}
set_option maxRecDepth 100000 in
set_option maxHeartbeats 1000000 in
theorem rfill_any (h : RepR w R M S v sv bv iv W F) (i : Nat) (hi : i < S.nf) (ad : Addr) (cap : Nat) (g : Nat → UInt8) (hc : ∀ j u, ((bytes32 g).map byv)[j]? = some u → w.cell? (ad.add j) = some u) (hne : bv.ownBlock ≠ some ad.block) :
    Calls Try.prog 74 #[.pointer (some ⟨M, 0, none⟩), .int .i64 i, .int .i64 0, .slice (some ad) 32 cap] w fun e w' => e = .returned (.int .i64 0) ∧ RepR w' R M { S with fr := upd2 S.fr i g } v sv bv iv W F ∧ Keep (fun b => bv.ownBlock = some b) w w' := by
  have H1 := Lib.hid (rmay_any h i 0)
  have he : pokeE S i 0 = 0 := by unfold pokeE; rw [if_neg (by omega)]
  rw [he] at H1
  obtain ⟨bb, cb, rfl, hcb⟩ := h.bslice
  have HEND : Hid (∀ {w' : World}, Keep (fun b => (Value.slice (some ⟨bb, 0, none⟩) (S.nf * 32) cb).ownBlock = some b) w w' → w'.ownsRow 0 5 1 (.slice (some ⟨bb, 0, none⟩) (S.nf * 32) cb) (S.nf * 32) (grid S.nf (upd2 S.fr i (mix (S.fr i) g 32))) → RepR w' R M { S with fr := upd2 S.fr i g } v sv (.slice (some ⟨bb, 0, none⟩) (S.nf * 32) cb) iv W F) := fun hk ho => h.mset hk (by rw [← mix_full]; exact ho)
  have HST : Hid (w.ownsRow 0 5 1 (.slice (some ⟨bb, 0, none⟩) (S.nf * 32) cb) (S.nf * 32) (grid S.nf (upd2 S.fr i (mix (S.fr i) g 0)))) := by rw [mix_zero]; exact Lib.hid h.frs
  have hMb : M ≠ bb := fun e => own_ne h.frs h.mem (by decide) (by rw [e]; rfl)
  have HSRC : Hid (∀ j, j < 32 → w.cell? (ad.add j) = some (byv (g j))) := fun j hj => hc j _ (by rw [List.getElem?_map, bytes32_get hj]; rfl)
  have hnb : ad.block ≠ bb := fun e => hne (by rw [e]; rfl)
  have c0 := h.mem.cell_of (i := 0) rfl
  have hn := h.inv.nf1
  clear h he hc hne
  generalize S.nf = nf at *
  have j0 : (0 : Int) ≤ (i : Int) := by omega
  have j2 : (i : Int) ≤ 64 := by omega
  have j3 : (0 : Int) ≤ (i : Int) * 32 := by omega
  have j4 : (i : Int) * 32 ≤ 3000 := by omega
  have j5 : (32 : Int) ≤ (nf : Int) * 32 - (i : Int) * 32 := by omega
  have j6 : (nf : Int) * 32 ≤ 3000 := by omega
  go_enter Try.func74, Try.ntmps74
  go_wp2_with fail
  refine H1.out.mono ?_
  rintro e w' ⟨rfl, rfl⟩
  go_wp2_with fail
  go_loopw [11] (fun x wr => ∃ k : Nat, k ≤ 32 ∧ x = .int .i64 k ∧ Hid (wr.ownsRow 0 5 1 (.slice (some ⟨bb, 0, none⟩) (nf * 32) cb) (nf * 32) (grid nf (upd2 S.fr i (mix (S.fr i) g k)))) ∧ Hid (Keep (fun b => (Value.slice (some ⟨bb, 0, none⟩) (nf * 32) cb).ownBlock = some b) w wr)) (fun x _ => 32 - (intOf x).toNat)
  case atStart => exact ⟨0, by omega, rfl, HST, Keep.refl _ _⟩
  case round =>
    obtain ⟨k, hk, rfl, hO, hK⟩ := hrel
    by_cases hk32 : k < 32
    · have k0 : (0 : Int) ≤ (k : Int) := by omega
      have k1 : (k : Int) < 32 := by omega
      have k2 : (i : Int) * 32 + k < (nf : Int) * 32 := by omega
      have k3 : (0 : Int) ≤ (i : Int) * 32 + k := by omega
      have k4 : (i : Int) * 32 + k ≤ 3000 := by omega
      have kw : IntKind.i64.wrap ((i : Int) * 32 + k) = (i : Int) * 32 + k := IntWalk.i64_in _ (by omega)
      have kn : ((i : Int) * 32 + k).toNat = i * 32 + k := by omega
      have c1 := hK.out.cellS c0 (fun e => hMb (by injection e with e; exact e.symm))
      have c2 := hK.out.cellS (HSRC.out k hk32) (by rw [block_add]; exact fun e => hnb (by injection e with e; exact e.symm))
      have c3 := hO.out.cellAt (i * 32 + k) (by omega)
      have hz := hO.out.frozenAt (i * 32 + k)
      rw [grid_get _ (by omega) hk32] at c3
      have hst := (hO.out.stored (i * 32 + k) (byv (g k))).1
      rw [grid_set _ hk32, mix_succ] at hst
      have HN := Lib.hid hst
      have HKN : Hid (Keep (fun b => (Value.slice (some ⟨bb, 0, none⟩) (nf * 32) cb).ownBlock = some b) w (wr.setCell ⟨bb, i * 32 + k, none⟩ (byv (g k)))) := hK.out.setCell (p := ⟨bb, i * 32 + k, none⟩) (.inl rfl) _
      have hks : Keep (· = bb) wr (wr.setCell ⟨bb, i * 32 + k, none⟩ (byv (g k))) := Keep.setCell (S := (· = bb)) (p := ⟨bb, i * 32 + k, none⟩) (Keep.refl _ wr) (.inl rfl) _
      have u0 := hks.drew.cellS c1 hMb
      have u1 := hks.drew.cellS c2 (by rw [block_add]; exact hnb)
      clear hst hks
      generalize upd2 S.fr i (mix (S.fr i) g k) i k = cc at *
      unfold byv at *
      go_wp2_with fail
      go_region_held3 (fun W => W.cell? ⟨M, 0, none⟩ = some (.slice (some ⟨bb, 0, none⟩) (nf * 32) cb) ∧ W.cell? (ad.add k) = some (.int .u8 (g k).toNat)) (first | exact ⟨c1, c2⟩ | exact ⟨u0, u1⟩ | go_keep) (fail)
      clear c1 c2 c3 hz u0 u1 kw kn
      go_wp2
      go_roundw
      case rel => exact ⟨k + 1, by omega, by go_num, HN.out, HKN.out.drew⟩
      case measure => simp [intOf]; omega
    · obtain rfl : k = 32 := by omega
      have HR := Lib.hid (HEND.out hK.out hO.out)
      go_wp2
      go_ret
      exact ⟨rfl, HR.out, hK.out⟩
end
end Go.Proofs.Ytjlenocmfeggdaa
