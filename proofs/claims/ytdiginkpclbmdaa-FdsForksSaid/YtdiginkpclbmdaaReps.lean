/- How the program's table and the document's are laid in memory, for one and the same plain state. -/
import Derived.Test.YtdiginkpclbmdaaWords
import Derived.Test.YtdiginkpclbmdaaModel
namespace Go.Proofs.Ytdiginkpclbmdaa
open Go.RowKit
/-- a struct Open's cells -/
def opc (o : Op3) : List Value := [.int .u8 o.kind, .int .i64 o.ref, .int .i64 o.pos]
def shc (o : Op3) (r : Nat) : List Value := [.int .u8 o.kind, .int .i64 o.ref, .int .i64 o.pos, .int .i64 r]
def ptr? (b : Bool) (a : Nat) : Value := .pointer (if b then some ⟨a, 0, none⟩ else none)
def tcell (S : St) (pb : Nat → Nat) (p : Nat) : Value := ptr? (S.has p) (pb p)
def pcell (S : St) (sb : Nat → Nat) (p k : Nat) : Value := ptr? (S.fd p k != 0) (sb (S.fd p k))
/-- the program's table at T: processes at pb, what is shared at sb, all of it in F -/
structure RepT (w : World) (T : Nat) (S : St) (pb sb : Nat → Nat) (F : Nat → Prop) : Prop where
  inv : S.Inv
  tab : Blk w T 64 (row 6 (tcell S pb))
  proc : ∀ p, p < 6 → S.has p = true → Blk w (pb p) 67 (row 8 (pcell S sb p))
  shr : ∀ n, Live S n → Blk w (sb n) 72 (shc (S.what n) (cnt S.fd n))
  inj : ∀ p q, p < 6 → q < 6 → S.has p = true → S.has q = true → pb p = pb q → p = q
  sinj : ∀ n m, Live S n → Live S m → sb n = sb m → n = m
  footT : F T
  footP : ∀ p, p < 6 → S.has p = true → F (pb p)
  footS : ∀ n, Live S n → F (sb n)
def RT (w : World) (T : Nat) (S : St) (F : Nat → Prop) : Prop := ∃ pb sb, RepT w T S pb sb F
/-- F, and what is new -/
def ext (F : Nat → Prop) (w w' : World) (b : Nat) : Prop := F b ∨ (w.heap.size ≤ b ∧ b < w'.heap.size)
section
variable {w w' : World} {T : Nat} {S : St} {pb sb : Nat → Nat} {F : Nat → Prop}
theorem RepT.keep {G : Nat → Prop} (h : RepT w T S pb sb F) (hk : Keep G w w') (hd : ∀ b, F b → ¬ G b) : RepT w' T S pb sb F :=
  ⟨h.inv, h.tab.keep hk (hd _ h.footT), fun p hp hh => (h.proc p hp hh).keep hk (hd _ (h.footP p hp hh)), fun n hn => (h.shr n hn).keep hk (hd _ (h.footS n hn)), h.inj, h.sinj, h.footT, h.footP, h.footS⟩
theorem RepT.keep0 (h : RepT w T S pb sb F) (hk : Keep (fun _ => False) w w') : RepT w' T S pb sb F := h.keep hk (fun _ _ => id)
theorem RepT.more {G : Nat → Prop} (h : RepT w T S pb sb F) (hd : ∀ b, F b → G b) : RepT w T S pb sb G :=
  ⟨h.inv, h.tab, h.proc, h.shr, h.inj, h.sinj, hd _ h.footT, fun p hp hh => hd _ (h.footP p hp hh), fun n hn => hd _ (h.footS n hn)⟩
theorem RepT.cellT (h : RepT w T S pb sb F) {p : Nat} (hp : p < 6) : w.cell? ⟨T, p, none⟩ = some (tcell S pb p) := h.tab.cell_of (row_get _ hp)
theorem RepT.cellP (h : RepT w T S pb sb F) {p k : Nat} (hp : p < 6) (hh : S.has p = true) (hk : k < 8) : w.cell? ⟨pb p, k, none⟩ = some (pcell S sb p k) := (h.proc p hp hh).cell_of (row_get _ hk)
theorem pcell_none {S : St} {sb : Nat → Nat} {p k : Nat} (h : S.fd p k = 0) : pcell S sb p k = .pointer none := by simp [pcell, ptr?, h]
theorem pcell_some {S : St} {sb : Nat → Nat} {p k : Nat} (h : S.fd p k ≠ 0) : pcell S sb p k = .pointer (some ⟨sb (S.fd p k), 0, none⟩) := by simp [pcell, ptr?, h]
theorem tcell_none {S : St} {pb : Nat → Nat} {p : Nat} (h : S.has p = false) : tcell S pb p = .pointer none := by simp [tcell, ptr?, h]
theorem tcell_some {S : St} {pb : Nat → Nat} {p : Nat} (h : S.has p = true) : tcell S pb p = .pointer (some ⟨pb p, 0, none⟩) := by simp [tcell, ptr?, h]
end
end Go.Proofs.Ytdiginkpclbmdaa
