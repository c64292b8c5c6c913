/- A disk and a memory, as plain data: no memory and no program. -/
namespace Go.Proofs.Ytjlenocmfeggdaa
/-- a request -/
structure Req where
  id : Int
  wr : Bool
  sec : Int
  fr : Int
  own : Int
  deriving DecidableEq
/-- how many sectors and frames, their bytes, what waits, the last number -/
structure St where
  ns : Nat
  nf : Nat
  sec : Nat → Nat → UInt8
  fr : Nat → Nat → UInt8
  q : List Req
  last : Nat
def St.init (ns nf : Nat) : St := ⟨ns, nf, fun _ _ => 0, fun _ _ => 0, [], 0⟩
/-- row i is another one -/
def upd2 (f : Nat → Nat → UInt8) (i : Nat) (g : Nat → UInt8) : Nat → Nat → UInt8 := fun k => if k = i then g else f k
structure St.Inv (S : St) : Prop where
  ns0 : 0 < S.ns
  ns1 : S.ns ≤ 64
  nf0 : 0 < S.nf
  nf1 : S.nf ≤ 64
  q8 : S.q.length ≤ 8
  ok : ∀ r ∈ S.q, 0 ≤ r.sec ∧ r.sec < S.ns ∧ 0 ≤ r.fr ∧ r.fr < 64
theorem St.Inv.init {ns nf : Nat} (h1 : 0 < ns) (h2 : ns ≤ 64) (h3 : 0 < nf) (h4 : nf ≤ 64) : (St.init ns nf).Inv := ⟨h1, h2, h3, h4, by simp [St.init], fun r hr => by simp [St.init] at hr⟩
/-- what Ask answers -/
def askE (S : St) (r : Req) : Int := if r.sec < 0 ∨ S.ns ≤ r.sec ∨ r.fr < 0 ∨ 64 ≤ r.fr then 2 else if 8 ≤ S.q.length then 4 else 0
def askN (S : St) (r : Req) : Int := if askE S r = 0 then S.last + 1 else 0
def askS (S : St) (r : Req) : St := if askE S r = 0 then { S with q := S.q ++ [{ r with id := S.last + 1 }], last := S.last + 1 } else S
def zeroR : Req := ⟨0, false, 0, 0, 0⟩
/-- the i-th one, if there is one -/
def delR (S : St) (i : Int) : Req := if i < 0 ∨ S.q.length ≤ i then zeroR else S.q.getD i.toNat zeroR
def delE (S : St) (i : Int) : Int := if i < 0 ∨ S.q.length ≤ i then 2 else if S.nf ≤ (delR S i).fr then 10 else 0
def St.pop (S : St) (i : Nat) : St := { S with q := S.q.eraseIdx i }
/-- the bytes go -/
def St.move (S : St) (r : Req) : St :=
  if S.nf ≤ r.fr then S else if r.wr = true then { S with sec := upd2 S.sec r.sec.toNat (S.fr r.fr.toNat) } else { S with fr := upd2 S.fr r.fr.toNat (S.sec r.sec.toNat) }
def delS (S : St) (i : Int) : St := if i < 0 ∨ S.q.length ≤ i then S else (S.pop i.toNat).move (delR S i)
/-- all out that are such -/
def outL (S : St) (p : Req → Bool) : List Int := (S.q.filter p).map (·.id)
def outS (S : St) (p : Req → Bool) : St := { S with q := S.q.filter fun r => !p r }
def ofFrame (f : Int) (r : Req) : Bool := r.fr == f
def ofOwner (o : Int) (r : Req) : Bool := r.own == o
def bytesOf (b : List UInt8) : Nat → UInt8 := fun j => b.getD j 0
def setE (S : St) (i : Int) (b : List UInt8) : Int := if i < 0 ∨ S.ns ≤ i then 2 else if b.length ≠ 32 then 3 else 0
def setS (S : St) (i : Int) (b : List UInt8) : St := if setE S i b = 0 then { S with sec := upd2 S.sec i.toNat (bytesOf b) } else S
/-- a byte of a frame -/
def pokeE (S : St) (i off : Int) : Int := if i < 0 ∨ S.nf ≤ i ∨ off < 0 ∨ 31 < off then 2 else 0
def pokeS (S : St) (i off : Int) (c : UInt8) : St := if pokeE S i off = 0 then { S with fr := upd2 S.fr i.toNat (fun j => if j = off.toNat then c else S.fr i.toNat j) } else S
/-- a row's bytes -/
def bytes32 (f : Nat → UInt8) : List UInt8 := (List.range 32).map f
theorem bytes32_len (f : Nat → UInt8) : (bytes32 f).length = 32 := by simp [bytes32]
theorem St.Inv.ask {S : St} (h : S.Inv) (r : Req) : (askS S r).Inv := by
  unfold askS
  by_cases he : askE S r = 0
  · rw [if_pos he]
    unfold askE at he
    have h1 : ¬ (r.sec < 0 ∨ S.ns ≤ r.sec ∨ r.fr < 0 ∨ 64 ≤ r.fr) := by intro hx; rw [if_pos hx] at he; cases he
    rw [if_neg h1] at he
    have h2 : ¬ 8 ≤ S.q.length := by intro hx; rw [if_pos hx] at he; cases he
    refine ⟨h.ns0, h.ns1, h.nf0, h.nf1, by simp; omega, fun x hx => ?_⟩
    rcases List.mem_append.1 hx with hx | hx
    · exact h.ok x hx
    · have : x = { r with id := S.last + 1 } := by simpa using hx
      subst this
      exact ⟨by simp; omega, by simp; omega, by simp; omega, by simp; omega⟩
  · rw [if_neg he]; exact h
theorem St.Inv.pop {S : St} (h : S.Inv) (i : Nat) : (S.pop i).Inv :=
  ⟨h.ns0, h.ns1, h.nf0, h.nf1, by have := List.length_eraseIdx_le S.q i; have := h.q8; simp [St.pop]; omega, fun r hr => h.ok r (List.mem_of_mem_eraseIdx hr)⟩
theorem St.Inv.move {S : St} (h : S.Inv) (r : Req) : (S.move r).Inv := by
  unfold St.move
  split
  · exact h
  · split <;> exact ⟨h.ns0, h.ns1, h.nf0, h.nf1, h.q8, h.ok⟩
theorem St.Inv.del {S : St} (h : S.Inv) (i : Int) : (delS S i).Inv := by
  unfold delS
  split
  · exact h
  · exact (h.pop _).move _
theorem St.Inv.out {S : St} (h : S.Inv) (p : Req → Bool) : (outS S p).Inv :=
  ⟨h.ns0, h.ns1, h.nf0, h.nf1, by have := List.length_filter_le (fun r => !p r) S.q; have := h.q8; simp only [outS]; omega, fun r hr => h.ok r (List.mem_filter.1 hr).1⟩
theorem St.Inv.set {S : St} (h : S.Inv) (i : Int) (b : List UInt8) : (setS S i b).Inv := by
  unfold setS; split
  · exact ⟨h.ns0, h.ns1, h.nf0, h.nf1, h.q8, h.ok⟩
  · exact h
theorem St.Inv.poke {S : St} (h : S.Inv) (i off : Int) (c : UInt8) : (pokeS S i off c).Inv := by
  unfold pokeS; split
  · exact ⟨h.ns0, h.ns1, h.nf0, h.nf1, h.q8, h.ok⟩
  · exact h
end Go.Proofs.Ytjlenocmfeggdaa
