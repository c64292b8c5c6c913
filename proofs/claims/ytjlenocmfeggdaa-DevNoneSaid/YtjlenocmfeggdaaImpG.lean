/- The walk of Fill, of one whole frame. -/
import Derived.Test.YtjlenocmfeggdaaImpF
namespace Go.Proofs.Ytjlenocmfeggdaa
open Go.RowKit
attribute [local go_sem] cell_alloc_some frozen_alloc_some
section
variable {w w' : World} {D M : Nat} {S : St} {v : Value} {sb fb : Nat} {T : Tl} {F : Nat → Prop}
/-- row i of the frames is another one -/
theorem RepT.frameSet (h : RepT w D M S v sb fb T F) {i : Nat} (hi : i < S.nf) (g : Nat → UInt8) (hk : Keep (· = fb) w w') (hb : Blk w' fb 115 (splice (gridT S.nf S.fr T.rf) (i * 32) ((bytes32 g).map byv))) : RepT w' D M { S with fr := upd2 S.fr i g } v sb fb T F := by
  rw [gridT_splice _ _ hi] at hb
  exact ⟨⟨h.inv.ns0, h.inv.ns1, h.inv.nf0, h.inv.nf1, h.inv.q8, h.inv.ok⟩, h.disk.keep hk (h.disk.ne_ h.frs (by decide)), ownsRow_keep h.que hk (fun g hg e => own_ne h.que h.frs (by decide) (by rw [hg, e])), h.secs.keep hk (h.secs.ne_ h.frs (by decide)), h.mem.keep hk (h.mem.ne_ h.frs (by decide)), hb, h.footD, h.footQ, h.footS, h.footM, h.footF⟩
theorem RepT.sectorSet (h : RepT w D M S v sb fb T F) {i : Nat} (hi : i < S.ns) (g : Nat → UInt8) (hk : Keep (· = sb) w w') (hb : Blk w' sb 98 (splice (gridT S.ns S.sec T.rs) (i * 32) ((bytes32 g).map byv))) : RepT w' D M { S with sec := upd2 S.sec i g } v sb fb T F := by
  rw [gridT_splice _ _ hi] at hb
  exact ⟨⟨h.inv.ns0, h.inv.ns1, h.inv.nf0, h.inv.nf1, h.inv.q8, h.inv.ok⟩, h.disk.keep hk (h.disk.ne_ h.secs (by decide)), ownsRow_keep h.que hk (fun g hg e => own_ne h.que h.secs (by decide) (by rw [hg, e])), hb, h.mem.keep hk (h.mem.ne_ h.secs (by decide)), h.frs.keep hk (h.frs.ne_ h.secs (by decide)), h.footD, h.footQ, h.footS, h.footM, h.footF⟩
theorem RepT.sectorCells (h : RepT w D M S v sb fb T F) {i : Nat} (hi : i < S.ns) : ((bytes32 (S.sec i)).map byv).length = 32 * 1 ∧ ∀ j u, ((bytes32 (S.sec i)).map byv)[j]? = some u → w.cell? ((⟨sb, i * 32, none⟩ : Addr).add j) = some u := by
  refine ⟨by simp [bytes32], fun j u hu => ?_⟩
  have hj : j < 32 := by have := (List.getElem?_eq_some_iff.1 hu).1; simpa [bytes32] using this
  rw [List.getElem?_map, bytes32_get hj] at hu
  rw [Addr.add_mid]
  exact h.secs.cell_of ((gridT_get S.sec T.rs hi hj).trans (by simpa using hu))
def lenOf : Value → Nat
  | .slice _ n _ => n
  | _ => 0
theorem size5 : (Try.prog.info? 5).map (·.size) = some 1 := by kernel_rfl
set_option maxRecDepth 100000 in
set_option maxHeartbeats 1000000 in
theorem fill_any (h : RepT w D M S v sb fb T F) (i : Nat) (hi : i < S.nf) (ad : Addr) (g : Nat → UInt8) (hc : ∀ j u, ((bytes32 g).map byv)[j]? = some u → w.cell? (ad.add j) = some u) :
    Calls Try.prog 45 #[.pointer (some ⟨M, 0, none⟩), .int .i64 i, .int .i64 0, .slice (some ad) 32 32] w fun e w' => e = .returned (.int .i64 0) ∧ RepT w' D M { S with fr := upd2 S.fr i g } v sb fb T F ∧ Keep (· = fb) w w' := by
  have H1 := Lib.hid (at_ok h i 0 1 hi (by decide) (by decide))
  have hcM := h.cellM
  have hn := h.inv.nf1
  have HB := Lib.hid h.frs
  have HC := Lib.hid hc
  have HE : Hid (∀ w', Hid (Blk w' fb 115 (splice (gridT S.nf S.fr T.rf) (i * 32) ((bytes32 g).map byv))) → Keep (· = fb) w w' → RepT w' D M { S with fr := upd2 S.fr i g } v sb fb T F) := fun w' hb hk => h.frameSet hi g hk hb.out
  have HL : Hid (i * 32 + ((bytes32 g).map byv).length ≤ (gridT S.nf S.fr T.rf).length) := by rw [gridT_len]; simp [bytes32, Hid]; omega
  have HO := Lib.hid (byv_one (bytes32 g))
  have HLN : Hid (((bytes32 g).map byv).length = 32) := by simp [bytes32, Hid]
  have hMf : M ≠ fb := h.mem.ne_ h.frs (by decide)
  clear h hc
  generalize (bytes32 g).map byv = bs at *
  generalize gridT S.nf S.fr T.rf = G at *
  generalize S.nf = nf at *
  have i0 : (0 : Int) ≤ (i : Int) := by omega
  have i1 : (i : Int) < (nf : Int) := by omega
  have i2 : (32 : Int) ≤ ((nf : Int) - (i : Int)) * 32 := by omega
  have i3 : (nf : Int) ≤ 64 := by omega
  have i4 : ((nf : Int) - (i : Int)) * 32 ≤ 2048 := by omega
  go_enter Try.func45, Try.ntmps45
  go_wp2_with fail
  refine H1.out.mono ?_
  rintro e w' ⟨rfl, rfl⟩
  go_wp2_with fail
  clear i2 i4
  go_loopw [1, 2, 3] (fun x y b wr => y = .int .i64 0 ∧ ((x = .int .i64 i ∧ b = .slice (some ad) 32 32 ∧ w = wr) ∨ (∃ (A : Option Addr) (c : Nat), x = .int .i64 ((i : Int) + 1) ∧ b = .slice A 0 c ∧ Hid (Blk wr fb 115 (splice G (i * 32) bs)) ∧ Hid (Keep (· = fb) w wr)))) (fun _ _ b _ => lenOf b)
  case atStart => exact ⟨rfl, .inl ⟨rfl, rfl, rfl⟩⟩
  case round =>
    obtain ⟨rfl, hrel⟩ := hrel
    rcases hrel with ⟨rfl, rfl, rfl⟩ | ⟨A, c, rfl, rfl, hb, hk⟩
    · go_wp2_with (refine wpList_copy_keep rfl _ _ 35 35 rfl 5 Try.underlying35 size5 fb (i * 32) 32 32 (some ad) 32 32 rfl rfl G 115 HB.out bs (by rw [HLN.out]; rfl) (fun _ => ⟨ad, rfl, HC.out⟩) HL.out HO.out 32 HLN.out ?_; intro w1 hb1 hk1 _)
      have HK1 := Lib.hid hk1

      clear hk1
      go_wp2
      go_roundw
      case rel => exact ⟨rfl, .inr ⟨_, _, by go_num, rfl, hb1, HK1⟩⟩
      case measure => simp [lenOf]
    · have HK1 := Lib.hid hk
      go_wp2
      go_ret
      exact ⟨rfl, HE.out _ hb hk.out, hk.out⟩
end
end Go.Proofs.Ytjlenocmfeggdaa
