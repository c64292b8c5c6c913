/- How the program's disk and memory, and the document's, are laid in memory, for one and the same plain state. -/
import Derived.Test.YtjlenocmfeggdaaTools
import Derived.Test.YtjlenocmfeggdaaModel
namespace Go.Proofs.Ytjlenocmfeggdaa
open Go.RowKit
def byv (c : UInt8) : Value := .int .u8 (c.toNat : Int)
theorem byv_one (l : List UInt8) : ∀ u ∈ l.map byv, u.oneCell' = true := by
  intro u hu
  obtain ⟨c, _, rfl⟩ := List.mem_map.1 hu
  rfl
def reqc (r : Req) : List Value := [.int .u32 r.id, .bool r.wr, .int .i64 r.sec, .int .i64 r.fr, .int .u8 r.own]
def flatQ (l : List Req) : List Value := l.flatMap reqc
theorem reqc_one (r : Req) : ∀ u ∈ reqc r, u.oneCell' = true := by simp [reqc, Value.oneCell']
theorem flatQ_one (l : List Req) : ∀ u ∈ flatQ l, u.oneCell' = true := by
  intro u hu
  obtain ⟨r, _, hr⟩ := List.mem_flatMap.1 hu
  exact reqc_one r u hr
theorem flatQ_len : ∀ l : List Req, (flatQ l).length = l.length * 5
  | [] => rfl
  | r :: l => by have := flatQ_len l; unfold flatQ at this ⊢; rw [List.flatMap_cons, List.length_append, this, List.length_cons]; show 5 + _ = _; omega
theorem flatQ_append (l m : List Req) : flatQ (l ++ m) = flatQ l ++ flatQ m := by simp [flatQ]
theorem flatQ_get : ∀ (l : List Req) (i : Nat) (r : Req) (j : Nat) (u : Value), l[i]? = some r → (reqc r)[j]? = some u → (flatQ l)[i * 5 + j]? = some u
  | [], i, r, j, u, h, _ => by simp at h
  | x :: l, 0, r, j, u, h, hj => by
    have : x = r := by simpa using h
    subst this
    have hj5 : j < 5 := (List.getElem?_eq_some_iff.1 hj).1
    show (reqc x ++ flatQ l)[0 * 5 + j]? = _
    rw [List.getElem?_append_left (by show _ < 5; omega), Nat.zero_mul, Nat.zero_add]; exact hj
  | x :: l, i + 1, r, j, u, h, hj => by
    have := flatQ_get l i r j u (by simpa using h) hj
    show (reqc x ++ flatQ l)[(i + 1) * 5 + j]? = _
    rw [List.getElem?_append_right (by show 5 ≤ _; omega)]
    show (flatQ l)[(i + 1) * 5 + j - 5]? = _
    rw [show (i + 1) * 5 + j - 5 = i * 5 + j by omega]; exact this
/-- n rows of 32 bytes -/
def grid (n : Nat) (f : Nat → Nat → UInt8) : List Value := row (n * 32) fun k => byv (f (k / 32) (k % 32))
theorem grid_len (n : Nat) (f : Nat → Nat → UInt8) : (grid n f).length = n * 32 := row_len _ _
theorem grid_get {n i j : Nat} (f : Nat → Nat → UInt8) (hi : i < n) (hj : j < 32) : (grid n f)[i * 32 + j]? = some (byv (f i j)) := by
  unfold grid
  rw [row_get _ (by omega), show (i * 32 + j) / 32 = i by omega, show (i * 32 + j) % 32 = j by omega]
theorem grid_set {n i j : Nat} (f : Nat → Nat → UInt8) (hj : j < 32) (c : UInt8) : (grid n f).set (i * 32 + j) (byv c) = grid n (upd2 f i (fun k => if k = j then c else f i k)) := by
  unfold grid
  rw [row_set]
  refine row_congr fun k hk => ?_
  unfold upd2
  by_cases h : k = i * 32 + j
  · rw [if_pos h, if_pos (by omega), if_pos (by omega)]
  · rw [if_neg h]
    by_cases hd : k / 32 = i
    · rw [if_pos hd, if_neg (by omega), hd]
    · rw [if_neg hd]
theorem bytes32_get {f : Nat → UInt8} {j : Nat} (h : j < 32) : (bytes32 f)[j]? = some (f j) := by simp [bytes32, h]
/-- 32 bytes laid over row i -/
theorem grid_splice {n i : Nat} (f : Nat → Nat → UInt8) (hi : i < n) (g : Nat → UInt8) : splice (grid n f) (i * 32) ((bytes32 g).map byv) = grid n (upd2 f i g) := by
  unfold splice
  apply List.ext_getElem?
  intro k
  have hl := grid_len n f
  have hb : ((bytes32 g).map byv).length = 32 := by simp [bytes32]
  by_cases hk : k < n * 32
  · have e : (grid n (upd2 f i g))[k]? = some (byv (upd2 f i g (k / 32) (k % 32))) := by unfold grid; rw [row_get _ hk]
    have e0 : (grid n f)[k]? = some (byv (f (k / 32) (k % 32))) := by unfold grid; rw [row_get _ hk]
    rw [e]
    by_cases h1 : k < i * 32
    · rw [List.getElem?_append_left (by rw [List.length_take]; omega), List.getElem?_take_of_lt h1, e0]
      unfold upd2; rw [if_neg (by omega)]
    · rw [List.getElem?_append_right (by rw [List.length_take]; omega), List.length_take, show min (i * 32) (grid n f).length = i * 32 by omega]
      by_cases h2 : k < i * 32 + 32
      · rw [List.getElem?_append_left (by omega), List.getElem?_map, bytes32_get (by omega)]
        unfold upd2; rw [if_pos (by omega), show k - i * 32 = k % 32 by omega]; rfl
      · rw [List.getElem?_append_right (by omega), List.getElem?_drop, hb, show i * 32 + 32 + (k - i * 32 - 32) = k by omega, e0]
        unfold upd2; rw [if_neg (by omega)]
  · rw [List.getElem?_eq_none (l := grid n _) (by rw [grid_len]; omega), List.getElem?_eq_none]
    simp [hl, hb]; omega
/-- .. and more behind them -/
def gridT (n : Nat) (f : Nat → Nat → UInt8) (rs : List Value) : List Value := grid n f ++ rs
theorem gridT_len (n : Nat) (f : Nat → Nat → UInt8) (rs : List Value) : (gridT n f rs).length = n * 32 + rs.length := by unfold gridT; rw [List.length_append, grid_len]
theorem gridT_get {n i j : Nat} (f : Nat → Nat → UInt8) (rs : List Value) (hi : i < n) (hj : j < 32) : (gridT n f rs)[i * 32 + j]? = some (byv (f i j)) := by
  unfold gridT
  rw [List.getElem?_append_left (by rw [grid_len]; omega), grid_get f hi hj]
theorem gridT_set {n i j : Nat} (f : Nat → Nat → UInt8) (rs : List Value) (hi : i < n) (hj : j < 32) (c : UInt8) : (gridT n f rs).set (i * 32 + j) (byv c) = gridT n (upd2 f i (fun k => if k = j then c else f i k)) rs := by
  unfold gridT
  rw [List.set_append_left _ _ (by rw [grid_len]; omega), grid_set f hj c]
theorem gridT_splice {n i : Nat} (f : Nat → Nat → UInt8) (rs : List Value) (hi : i < n) (g : Nat → UInt8) : splice (gridT n f rs) (i * 32) ((bytes32 g).map byv) = gridT n (upd2 f i g) rs := by
  unfold gridT
  rw [← grid_splice f hi g]
  unfold splice
  have hl := grid_len n f
  have hb : ((bytes32 g).map byv).length = 32 := by simp [bytes32]
  rw [List.take_append_of_le_length (by omega), List.drop_append_of_le_length (by omega)]
  simp only [List.append_assoc]
/-- the capacities of the program's sectors and frames, and what lies behind these -/
structure Tl where
  sc : Nat
  fc : Nat
  rs : List Value
  rf : List Value
/-- the program's disk at D and memory at M -/
structure RepT (w : World) (D M : Nat) (S : St) (v : Value) (sb fb : Nat) (T : Tl) (F : Nat → Prop) : Prop where
  inv : S.Inv
  disk : Blk w D 92 [v, .int .u32 S.last, .slice (some ⟨sb, 0, none⟩) S.ns T.sc]
  que : w.ownsRow 0 44 5 v S.q.length (flatQ S.q)
  secs : Blk w sb 98 (gridT S.ns S.sec T.rs)
  mem : Blk w M 102 [.slice (some ⟨fb, 0, none⟩) S.nf T.fc]
  frs : Blk w fb 115 (gridT S.nf S.fr T.rf)
  footD : F D
  footQ : ∀ g, v.ownBlock = some g → F g
  footS : F sb
  footM : F M
  footF : F fb
def RT (w : World) (D M : Nat) (S : St) (F : Nat → Prop) : Prop := ∃ v sb fb T, RepT w D M S v sb fb T F
/-- F, and what is new -/
def ext (F : Nat → Prop) (w w' : World) (b : Nat) : Prop := F b ∨ (w.heap.size ≤ b ∧ b < w'.heap.size)
/-- a row of rows: each its own block, of 32 bytes -/
def Rows (w : World) (n : Nat) (sec : Nat → Nat → UInt8) (iv : Nat → Value) (F : Nat → Prop) : Prop :=
  ∀ i, i < n → w.ownsRow 0 5 1 (iv i) 32 ((bytes32 (sec i)).map byv) ∧ ∀ g, (iv i).ownBlock = some g → F g
/-- the document's disk at R and memory at M; W: what it writes; F: all that it stands on -/
structure RepR (w : World) (R M : Nat) (S : St) (v sv bv : Value) (iv : Nat → Value) (W F : Nat → Prop) : Prop where
  inv : S.Inv
  disk : Blk w R 118 [sv, v, .int .u32 S.last]
  que : w.ownsRow 0 44 5 v S.q.length (flatQ S.q)
  secs : w.ownsRow 0 35 1 sv S.ns (row S.ns iv)
  rows : Rows w S.ns S.sec iv F
  mem : Blk w M 120 [bv]
  frs : w.ownsRow 0 5 1 bv (S.nf * 32) (grid S.nf S.fr)
  wR : W R
  wS : ∀ g, sv.ownBlock = some g → W g
  wB : ∀ g, bv.ownBlock = some g → W g
  ne : ∀ i, i < S.ns → (iv i).ownBlock ≠ bv.ownBlock
  wF : ∀ b, W b → F b
  footM : F M
  footQ : ∀ g, v.ownBlock = some g → F g
def RR (w : World) (R M : Nat) (S : St) (W F : Nat → Prop) : Prop := ∃ v sv bv iv, RepR w R M S v sv bv iv W F
section
variable {w w' : World} {D M R : Nat} {S : St} {v sv bv : Value} {iv : Nat → Value} {sb fb : Nat} {T : Tl} {F W G : Nat → Prop}
theorem RepT.keep (h : RepT w D M S v sb fb T F) (hk : Keep G w w') (hd : ∀ b, F b → ¬ G b) : RepT w' D M S v sb fb T F :=
  ⟨h.inv, h.disk.keep hk (hd _ h.footD), ownsRow_keep h.que hk (fun g hg => hd _ (h.footQ g hg)), h.secs.keep hk (hd _ h.footS), h.mem.keep hk (hd _ h.footM), h.frs.keep hk (hd _ h.footF), h.footD, h.footQ, h.footS, h.footM, h.footF⟩
theorem RepT.keep0 (h : RepT w D M S v sb fb T F) (hk : Keep none_ w w') : RepT w' D M S v sb fb T F := h.keep hk (fun _ _ => id)
theorem RepT.more (h : RepT w D M S v sb fb T F) (hd : ∀ b, F b → G b) : RepT w D M S v sb fb T G :=
  ⟨h.inv, h.disk, h.que, h.secs, h.mem, h.frs, hd _ h.footD, fun g hg => hd _ (h.footQ g hg), hd _ h.footS, hd _ h.footM, hd _ h.footF⟩
theorem Rows.keep {n : Nat} {sec : Nat → Nat → UInt8} (h : Rows w n sec iv F) (hk : Keep G w w') (hd : ∀ b, F b → ¬ G b) : Rows w' n sec iv F :=
  fun i hi => ⟨ownsRow_keep (h i hi).1 hk (fun g hg => hd _ ((h i hi).2 g hg)), (h i hi).2⟩
theorem RepR.keep (h : RepR w R M S v sv bv iv W F) (hk : Keep G w w') (hd : ∀ b, F b → ¬ G b) : RepR w' R M S v sv bv iv W F :=
  ⟨h.inv, h.disk.keep hk (hd _ (h.wF _ h.wR)), ownsRow_keep h.que hk (fun g hg => hd _ (h.footQ g hg)), ownsRow_keep h.secs hk (fun g hg => hd _ (h.wF _ (h.wS g hg))), h.rows.keep hk hd, h.mem.keep hk (hd _ h.footM), ownsRow_keep h.frs hk (fun g hg => hd _ (h.wF _ (h.wB g hg))), h.wR, h.wS, h.wB, h.ne, h.wF, h.footM, h.footQ⟩
theorem RepR.keep0 (h : RepR w R M S v sv bv iv W F) (hk : Keep none_ w w') : RepR w' R M S v sv bv iv W F := h.keep hk (fun _ _ => id)
theorem RepR.more {W' : Nat → Prop} (h : RepR w R M S v sv bv iv W F) (hd : ∀ b, F b → G b) (hw : ∀ b, W b → W' b) (hg : ∀ b, W' b → G b) : RepR w R M S v sv bv iv W' G :=
  ⟨h.inv, h.disk, h.que, h.secs, fun i hi => ⟨(h.rows i hi).1, fun g e => hd _ ((h.rows i hi).2 g e)⟩, h.mem, h.frs, hw _ h.wR, fun g e => hw _ (h.wS g e), fun g e => hw _ (h.wB g e), h.ne, hg, hd _ h.footM, fun g e => hd _ (h.footQ g e)⟩
/-- a slice that holds n elements xs -/
def Slc (w : World) (size : Nat) (v : Value) (n : Nat) (xs : List Value) : Prop := ∃ A cap, v = .slice A n cap ∧ n ≤ cap ∧ cap ≤ maxLen ∧ Holds w A n size xs
theorem Slc.of_own {base e size n : Nat} {xs : List Value} (h : w.ownsRow base e size v n xs) : Slc w size v n xs := by
  obtain ⟨A, cap, rfl, h1, h2⟩ := own_form h
  exact ⟨A, cap, rfl, h1, h2, .of_own h⟩
theorem Slc.keep {size n : Nat} {xs : List Value} (h : Slc w size v n xs) (hk : Keep G w w') (hG : ∀ g, v.ownBlock = some g → ¬ G g) : Slc w' size v n xs := by
  obtain ⟨A, cap, rfl, h1, h2, h3⟩ := h
  exact ⟨A, cap, rfl, h1, h2, h3.keep hk (fun ad e => hG _ (by subst e; rfl))⟩
theorem Slc.keep0 {size n : Nat} {xs : List Value} (h : Slc w size v n xs) (hk : Keep none_ w w') : Slc w' size v n xs := h.keep hk (fun _ _ => id)
end
end Go.Proofs.Ytjlenocmfeggdaa
