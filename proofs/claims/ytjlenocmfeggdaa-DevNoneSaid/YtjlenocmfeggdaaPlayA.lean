/- The walk of play. -/
import Derived.Test.YtjlenocmfeggdaaLive
namespace Go.Proofs.Ytjlenocmfeggdaa
open Go.RowKit
attribute [local go_sem] cell_alloc_some frozen_alloc_some
/-- the slice value v holds the deeds ds -/
def Deeds (w : World) (v : Value) (ds : List Deed) : Prop :=
  (ds = [] ∧ v = .slice none 0 0) ∨ ∃ a cap, v = .slice (some a) ds.length cap ∧ ds.length ≤ maxLen ∧ (∀ i d, ds[i]? = some d → ∀ j u, (dcells d)[j]? = some u → w.cell? (a.add (i * 8 + j)) = some u) ∧ ∀ d ∈ ds, Bytes w d.bv d.b ∧ ∀ ad n c, d.bv = .slice (some ad) n c → 0 < n → ad.block < w.heap.size
theorem Deeds.keep {w w' : World} {v : Value} {ds : List Deed} (h : Deeds w v ds) (hk : Keep none_ w w') : Deeds w' v ds := by
  rcases h with h | ⟨a, cap, hv, hl, h, hb⟩
  · exact .inl h
  · exact .inr ⟨a, cap, hv, hl, (fun i d hd j u hu => by
      have h1 := h i d hd j u hu
      exact (hk.cell (World.block_lt_of_cell? w _ h1) id).trans h1), fun d hd => ⟨(hb d hd).1.keep0 hk, fun ad n c e hn => Nat.lt_of_lt_of_le ((hb d hd).2 ad n c e hn) hk.size⟩⟩
theorem add_at (a : Addr) (n j : Nat) (hj : j ≠ 0) : a.add (n + j) = ⟨(a.add n).block, (a.add n).off + j, none⟩ := by
  unfold Addr.add
  rw [if_neg (by omega)]
  by_cases h : n = 0
  · subst h; simp
  · rw [if_neg h]; simp; omega
theorem deed_cells {W : World} {a : Addr} {k : Nat} {d : Deed} (hc : ∀ j u, (dcells d)[j]? = some u → W.cell? (a.add (k * 8 + j)) = some u) :
    W.cell? (a.add (k * 8)) = some (.int .i64 d.op) ∧ W.cell? ⟨(a.add (k * 8)).block, (a.add (k * 8)).off + 1, none⟩ = some (.int .i64 d.i) ∧ W.cell? ⟨(a.add (k * 8)).block, (a.add (k * 8)).off + 2, none⟩ = some (.int .u32 d.r.id) ∧
      W.cell? ⟨(a.add (k * 8)).block, (a.add (k * 8)).off + 3, none⟩ = some (.bool d.r.wr) ∧ W.cell? ⟨(a.add (k * 8)).block, (a.add (k * 8)).off + 4, none⟩ = some (.int .i64 d.r.sec) ∧
      W.cell? ⟨(a.add (k * 8)).block, (a.add (k * 8)).off + 5, none⟩ = some (.int .i64 d.r.fr) ∧ W.cell? ⟨(a.add (k * 8)).block, (a.add (k * 8)).off + 6, none⟩ = some (.int .u8 d.r.own) ∧ W.cell? ⟨(a.add (k * 8)).block, (a.add (k * 8)).off + 7, none⟩ = some d.bv := by
  refine ⟨hc 0 _ rfl, ?_, ?_, ?_, ?_, ?_, ?_, ?_⟩
  · rw [← add_at _ _ 1 (by decide)]; exact hc 1 _ rfl
  · rw [← add_at _ _ 2 (by decide)]; exact hc 2 _ rfl
  · rw [← add_at _ _ 3 (by decide)]; exact hc 3 _ rfl
  · rw [← add_at _ _ 4 (by decide)]; exact hc 4 _ rfl
  · rw [← add_at _ _ 5 (by decide)]; exact hc 5 _ rfl
  · rw [← add_at _ _ 6 (by decide)]; exact hc 6 _ rfl
  · rw [← add_at _ _ 7 (by decide)]; exact hc 7 _ rfl
def zeroD : Deed := ⟨7, 0, zeroR, [], .slice none 0 0⟩
def runS (S : St) (ds : List Deed) : Nat → St
  | 0 => S
  | k + 1 => doS (runS S ds k) (ds.getD k zeroD)
theorem run_last (S : St) (ds : List Deed) : ∀ k, (runS S ds k).last ≤ S.last + k
  | 0 => Nat.le_refl _
  | k + 1 => by have := run_last S ds k; have := last_do (runS S ds k) (ds.getD k zeroD); unfold runS; omega
theorem run_shape (S : St) (ds : List Deed) : ∀ k, (runS S ds k).ns = S.ns ∧ (runS S ds k).nf = S.nf
  | 0 => ⟨rfl, rfl⟩
  | k + 1 => by have h1 := run_shape S ds k; have h2 := two_shape (runS S ds k) (ds.getD k zeroD); unfold runS; exact ⟨h2.1.trans h1.1, h2.2.trans h1.2⟩
def P0 : St := St.init 5 4
def playS (ds : List Deed) : St := runS P0 ds (min ds.length 30)
section
variable {a w w' w1 w2 : World} {D M R Q : Nat} {S S2 S' : St} {G : Nat → Prop}
/-- the document's disk and memory, new beside the program's -/
theorem fresh2 {n m n2 m2 : Nat} (h : Fresh1 a w n m D M) (n0 : 0 < n2) (n1 : n2 ≤ 64) (m0 : 0 < m2) (m1 : m2 ≤ 64) :
    Calls Try.prog 35 #[.int .i64 n2] w fun e w1 => ∃ R, e = .returned (.pointer (some ⟨R, 0, none⟩)) ∧ Keep none_ a w1 ∧ Calls Try.prog 36 #[.int .i64 m2] w1 fun e w2 => ∃ Q, e = .returned (.pointer (some ⟨Q, 0, none⟩)) ∧ Two a w2 D M R Q (St.init n m) (St.init n2 m2) none_ := by
  obtain ⟨F, h1, h2, hk0⟩ := h
  refine (rnewdisk_ok w n2 n0 n1).mono ?_
  rintro e w1 ⟨R, sv, iv, rfl, hn⟩
  have hka := hk0.trans hn.keep
  refine ⟨R, rfl, hka, ?_⟩
  refine (rnewmem_ok w1 m2 m0 m1).mono ?_
  rintro e w2 ⟨rfl, hb1, hb2, hk2, hs2⟩
  have hs := hk0.size
  have hs1 := hn.keep.size
  have hR := (hn.disk.keep hk2 id).lt
  have own_lt : ∀ {e size n : Nat} {v : Value} {xs : List Value} {g : Nat}, w1.ownsRow w.heap.size e size v n xs → v.ownBlock = some g → w.heap.size ≤ g ∧ g < w1.heap.size := fun ho hg => ownsRow_lt ho hg
  refine ⟨_, rfl, F, fun b => w.heap.size ≤ b ∧ b < w2.heap.size, fun b => w.heap.size ≤ b ∧ b < w2.heap.size, (h1.keep hn.keep (fun _ _ => id)).keep hk2 (fun _ _ => id), ⟨.slice none 0 0, sv, .slice (some ⟨w1.heap.size, 0, none⟩) (m2 * 32) (m2 * 32), iv, ?_⟩,
    fun b hb hc => by have := (h2 b hb).2; omega, fun b hb => ⟨by have := (h2 b hb).2; omega, .inr (h2 b hb).1⟩, fun b hb => hb.2, fun b hb => .inr (by omega), hka.trans hk2⟩
  refine ⟨.init n0 n1 m0 m1, hn.disk.keep hk2 id, own_nil _ _ _ _, ownsRow_base (ownsRow_keep hn.secs hk2 (fun _ _ => id)) (Nat.zero_le _), fun i hi => ⟨?_, fun g hg => ?_⟩, hb1, hb2, ⟨hn.hR, by omega⟩, fun g hg => ?_, fun g hg => ?_, fun i hi => ?_, fun b hb => hb, ⟨by omega, by omega⟩, fun g hg => (by cases hg)⟩
  · exact ownsRow_base (ownsRow_keep (hn.rows i hi) hk2 (fun _ _ => id)) (Nat.zero_le _)
  · have := own_lt (hn.rows i hi) hg; exact ⟨by omega, by omega⟩
  · have := own_lt hn.secs hg; exact ⟨by omega, by omega⟩
  · have e : w1.heap.size = g := by simpa [Value.ownBlock] using hg
    subst e; exact ⟨by omega, by omega⟩
  · intro hc
    have := own_lt (hn.rows i hi) (g := w1.heap.size) (hc.trans rfl)
    omega
/-- since an earlier world -/
theorem Two.base {a0 : World} (h : Two a w D M R Q S S2 none_) (hk : Keep none_ a0 a) : Two a0 w D M R Q S S2 none_ := by
  obtain ⟨FT, FR, V, h1, h2, h3, h4, h5, hV, h6⟩ := h
  have := hk.size
  exact ⟨FT, FR, V, h1, h2, h3, fun b hb => ⟨(h4 b hb).1, (h4 b hb).2.imp id (fun h => by omega)⟩, h5, fun b hb => (hV b hb).imp id (fun h => by omega), hk.trans h6⟩
/-- a box of pointers is none of it -/
theorem Two.box {B : Nat} {cs : List Value} (h : Two a w D M R Q S S2 G) (hB : Blk w B 29 cs) (hk : Keep (· = B) w w') (hG : G B ∨ a.heap.size ≤ B) : Two a w' D M R Q S S2 G := by
  obtain ⟨FT, FR, V, ⟨v, sb, fb, T, h1⟩, ⟨vr, sv, bv, iv, h2⟩, h3, h4, h5, hV, h6⟩ := h
  have hs := hk.size
  have t1 : RT w D M S (fun b => FT b ∧ b ≠ B) := ⟨v, sb, fb, T, h1.inv, h1.disk, h1.que, h1.secs, h1.mem, h1.frs, ⟨h1.footD, h1.disk.ne_ hB (by decide)⟩, fun g hg => ⟨h1.footQ g hg, fun e => own_ne h1.que hB (by decide) (by rw [hg, e])⟩, ⟨h1.footS, h1.secs.ne_ hB (by decide)⟩, ⟨h1.footM, h1.mem.ne_ hB (by decide)⟩, ⟨h1.footF, h1.frs.ne_ hB (by decide)⟩⟩
  have t2 : RR w R Q S2 (fun b => V b ∧ b ≠ B) (fun b => FR b ∧ b ≠ B) := ⟨vr, sv, bv, iv, h2.inv, h2.disk, h2.que, h2.secs, fun i hi => ⟨(h2.rows i hi).1, fun g hg => ⟨(h2.rows i hi).2 g hg, fun e => own_ne (h2.rows i hi).1 hB (by decide) (by rw [hg, e])⟩⟩, h2.mem, h2.frs, ⟨h2.wR, h2.disk.ne_ hB (by decide)⟩, fun g hg => ⟨h2.wS g hg, fun e => own_ne h2.secs hB (by decide) (by rw [hg, e])⟩, fun g hg => ⟨h2.wB g hg, fun e => own_ne h2.frs hB (by decide) (by rw [hg, e])⟩, h2.ne, fun b hb => ⟨h2.wF b hb.1, hb.2⟩, ⟨h2.footM, h2.mem.ne_ hB (by decide)⟩, fun g hg => ⟨h2.footQ g hg, fun e => own_ne h2.que hB (by decide) (by rw [hg, e])⟩⟩
  exact ⟨_, _, _, t1.keep hk (fun b hb e => hb.2 e), t2.keep hk (fun b hb e => hb.2 e), fun b hb hc => h3 b hb.1 hc.1, fun b hb => ⟨by have := (h4 b hb.1).1; omega, (h4 b hb.1).2⟩, fun b hb => by have := h5 b hb.1; omega, fun b hb => hV b hb.1, h6.thenF hk fun x hx => by subst hx; exact hG⟩
end
end Go.Proofs.Ytjlenocmfeggdaa
