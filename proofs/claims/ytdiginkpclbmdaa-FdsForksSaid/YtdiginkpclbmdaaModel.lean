/- What descriptors are of, as plain data: no memory and no program. -/
namespace Go.Proofs.Ytdiginkpclbmdaa
/-- what is opened -/
structure Op3 where
  kind : Int
  ref : Int
  pos : Int
  deriving DecidableEq
/-- of each process whether it is there, of each of its descriptors what it is of (1 more; 0: none), all that there ever was -/
structure St where
  has : Nat → Bool
  fd : Nat → Nat → Nat
  all : List Op3
def St.init : St := ⟨fun _ => false, fun _ _ => 0, []⟩
structure St.Inv (S : St) : Prop where
  le : ∀ p k, p < 6 → k < 8 → S.fd p k ≤ S.all.length
  none : ∀ p k, p < 6 → k < 8 → S.has p = false → S.fd p k = 0
def mayE (S : St) (p : Int) : Int := if p < 0 ∨ 6 ≤ p ∨ S.has p.toNat = false then 5 else 0
def atE (S : St) (p k : Int) : Int := if mayE S p = 5 then 5 else if k < 0 ∨ 8 ≤ k ∨ S.fd p.toNat k.toNat = 0 then 3 else 0
def freshE (S : St) (p : Int) : Int := if p < 0 ∨ 6 ≤ p then 2 else if S.has p.toNat = true then 6 else 0
/-- how many i below n are such -/
def cntB (f : Nat → Bool) : Nat → Nat
  | 0 => 0
  | n + 1 => cntB f n + if f n = true then 1 else 0
theorem cntB_congr {f g : Nat → Bool} : ∀ n, (∀ i, i < n → f i = g i) → cntB f n = cntB g n
  | 0, _ => rfl
  | n + 1, h => by unfold cntB; rw [cntB_congr n (fun i hi => h i (by omega)), h n (by omega)]
theorem cntB_zero {f : Nat → Bool} : ∀ n, (∀ i, i < n → f i = false) → cntB f n = 0
  | 0, _ => rfl
  | n + 1, h => by unfold cntB; rw [cntB_zero n (fun i hi => h i (by omega)), h n (by omega)]; rfl
theorem cntB_pos {f : Nat → Bool} {i : Nat} : ∀ n, i < n → f i = true → 0 < cntB f n
  | 0, h, _ => by omega
  | n + 1, h, hi => by
    unfold cntB
    by_cases e : i = n
    · subst e; rw [if_pos hi]; omega
    · have := cntB_pos n (by omega) hi; omega
theorem cntB_of_pos {f : Nat → Bool} : ∀ n, 0 < cntB f n → ∃ i, i < n ∧ f i = true
  | 0, h => by simp [cntB] at h
  | n + 1, h => by
    unfold cntB at h
    by_cases e : f n = true
    · exact ⟨n, by omega, e⟩
    · rw [if_neg e] at h; obtain ⟨i, hi, h⟩ := cntB_of_pos n (by omega); exact ⟨i, by omega, h⟩
/-- one place is turned -/
theorem cntB_upd {f g : Nat → Bool} {i : Nat} : ∀ n, i < n → (∀ j, j < n → j ≠ i → g j = f j) → cntB g n + (if f i = true then 1 else 0) = cntB f n + (if g i = true then 1 else 0)
  | 0, h, _ => by omega
  | n + 1, h, hj => by
    unfold cntB
    by_cases e : i = n
    · subst e
      rw [cntB_congr (f := g) (g := f) i (fun j hjn => hj j (by omega) (by omega))]
      omega
    · have := cntB_upd n (by omega) (fun j hjn hne => hj j (by omega) hne)
      rw [hj n (by omega) (by omega)]
      omega
theorem cntB_le {f : Nat → Bool} : ∀ n, cntB f n ≤ n
  | 0 => by simp [cntB]
  | n + 1 => by unfold cntB; have := cntB_le (f := f) n; split <;> omega
/-- how many descriptors are of n -/
def cnt (fd : Nat → Nat → Nat) (n : Nat) : Nat := cntB (fun i => fd (i / 8) (i % 8) == n) 48
def Live (S : St) (n : Nat) : Prop := n ≠ 0 ∧ 0 < cnt S.fd n
theorem cnt_pos {fd : Nat → Nat → Nat} {p k : Nat} (hp : p < 6) (hk : k < 8) : 0 < cnt fd (fd p k) :=
  cntB_pos (i := p * 8 + k) 48 (by omega) (by rw [show (p * 8 + k) / 8 = p by omega, show (p * 8 + k) % 8 = k by omega]; simp)
theorem live_of {S : St} {p k : Nat} (hp : p < 6) (hk : k < 8) (h : S.fd p k ≠ 0) : Live S (S.fd p k) := ⟨h, cnt_pos hp hk⟩
theorem cnt_of_pos {fd : Nat → Nat → Nat} {n : Nat} (h : 0 < cnt fd n) : ∃ p k, p < 6 ∧ k < 8 ∧ fd p k = n := by
  obtain ⟨i, hi, h⟩ := cntB_of_pos 48 h
  exact ⟨i / 8, i % 8, by omega, by omega, by simpa using h⟩
theorem live_le {S : St} (hS : S.Inv) {n : Nat} (h : Live S n) : 1 ≤ n ∧ n ≤ S.all.length := by
  obtain ⟨p, k, hp, hk, rfl⟩ := cnt_of_pos h.2
  exact ⟨by have := h.1; omega, hS.le p k hp hk⟩
theorem cnt_le (fd : Nat → Nat → Nat) (n : Nat) : cnt fd n ≤ 48 := cntB_le 48
/-- a descriptor is of something else -/
def setFd (fd : Nat → Nat → Nat) (p k n : Nat) : Nat → Nat → Nat := fun q j => if q = p ∧ j = k then n else fd q j
theorem setFd_same (fd : Nat → Nat → Nat) (p k n : Nat) : setFd fd p k n p k = n := by simp [setFd]
theorem setFd_other (fd : Nat → Nat → Nat) (p k n : Nat) {q j : Nat} (h : ¬ (q = p ∧ j = k)) : setFd fd p k n q j = fd q j := by simp only [setFd]; rw [if_neg h]
theorem cnt_setFd (fd : Nat → Nat → Nat) (p k n m : Nat) (hp : p < 6) (hk : k < 8) : cnt (setFd fd p k n) m + (if fd p k = m then 1 else 0) = cnt fd m + (if n = m then 1 else 0) := by
  have h := cntB_upd (f := fun i => fd (i / 8) (i % 8) == m) (g := fun i => setFd fd p k n (i / 8) (i % 8) == m) (i := p * 8 + k) 48 (by omega)
    (fun j hj hne => by rw [setFd_other]; rintro ⟨h1, h2⟩; omega)
  simp only [show (p * 8 + k) / 8 = p by omega, show (p * 8 + k) % 8 = k by omega, setFd_same, beq_iff_eq] at h
  exact h
/-- the least descriptor from k on that is free (8: there is none) -/
def free (S : St) (p : Nat) : Nat → Nat → Nat
  | 0, k => k
  | d + 1, k => if S.fd p k = 0 then k else free S p d (k + 1)
def St.free (S : St) (p : Nat) : Nat := Ytdiginkpclbmdaa.free S p 8 0
theorem free_spec (S : St) (p : Nat) : ∀ d k, k ≤ Ytdiginkpclbmdaa.free S p d k ∧ Ytdiginkpclbmdaa.free S p d k ≤ k + d ∧ (∀ j, k ≤ j → j < Ytdiginkpclbmdaa.free S p d k → S.fd p j ≠ 0) ∧ (Ytdiginkpclbmdaa.free S p d k < k + d → S.fd p (Ytdiginkpclbmdaa.free S p d k) = 0)
  | 0, k => ⟨by simp [Ytdiginkpclbmdaa.free], by simp [Ytdiginkpclbmdaa.free], by intro j h1 h2; simp [Ytdiginkpclbmdaa.free] at h2; omega, by intro h; simp [Ytdiginkpclbmdaa.free] at h⟩
  | d + 1, k => by
    unfold Ytdiginkpclbmdaa.free
    by_cases h : S.fd p k = 0
    · rw [if_pos h]; exact ⟨by omega, by omega, by intro j h1 h2; omega, fun _ => h⟩
    · rw [if_neg h]
      obtain ⟨h1, h2, h3, h4⟩ := free_spec S p d (k + 1)
      refine ⟨by omega, by omega, fun j hj hl => ?_, fun hl => h4 (by omega)⟩
      by_cases e : j = k
      · subst e; exact h
      · exact h3 j (by omega) hl
theorem St.free_le (S : St) (p : Nat) : S.free p ≤ 8 := by have := (free_spec S p 8 0).2.1; unfold St.free; omega
theorem St.free_ne (S : St) (p : Nat) {j : Nat} (h : j < S.free p) : S.fd p j ≠ 0 := (free_spec S p 8 0).2.2.1 j (by omega) h
theorem St.free_zero (S : St) (p : Nat) (h : S.free p < 8) : S.fd p (S.free p) = 0 := (free_spec S p 8 0).2.2.2 (by unfold St.free at h; omega)
/-- how many descriptors below k a process has -/
def listN (S : St) (p : Nat) (k : Nat) : List Nat := (List.range k).filter fun j => S.fd p j != 0
theorem listN_succ (S : St) (p k : Nat) : listN S p (k + 1) = listN S p k ++ (if S.fd p k = 0 then [] else [k]) := by
  unfold listN
  rw [List.range_succ, List.filter_append]
  by_cases h : S.fd p k = 0 <;> simp [h]
theorem listN_le (S : St) (p k : Nat) : (listN S p k).length ≤ k := by
  unfold listN; have := List.length_filter_le (fun j => S.fd p j != 0) (List.range k); simpa using this
def listE (S : St) (p : Int) : List Nat := if mayE S p = 5 then [] else listN S p.toNat 8
def roomE (S : St) (p : Int) : Int := if mayE S p = 5 then 0 else 8 - (listN S p.toNat 8).length
def St.begin (S : St) (p : Nat) : St := { S with has := fun q => if q = p then true else S.has q }
def St.fork (S : St) (p q : Nat) : St := { S with has := fun x => if x = q then true else S.has x, fd := fun x k => if x = q then S.fd p k else S.fd x k }
def St.give (S : St) (p n : Nat) : St := { S with fd := setFd S.fd p (S.free p) n }
def St.push (S : St) (o : Op3) : St := { S with all := S.all ++ [o] }
def St.close (S : St) (p k : Nat) : St := { S with fd := setFd S.fd p k 0 }
def St.what (S : St) (n : Nat) : Op3 := S.all.getD (n - 1) ⟨0, 0, 0⟩
def St.move (S : St) (p k : Nat) (pos : Int) : St := { S with all := S.all.set (S.fd p k - 1) { S.what (S.fd p k) with pos := pos } }
/-- the descriptors below k are closed -/
def St.shut (S : St) (p : Nat) : Nat → St
  | 0 => S
  | k + 1 => (S.shut p k).close p k
/-- what nobody has any more, when the descriptors below k are closed -/
def outs (S : St) (p : Nat) : Nat → List Op3
  | 0 => []
  | k + 1 => outs S p k ++ (if S.fd p k ≠ 0 ∧ cnt (S.shut p (k + 1)).fd (S.fd p k) = 0 then [S.what (S.fd p k)] else [])
def St.endp (S : St) (p : Nat) : St := { S.shut p 8 with has := fun q => if q = p then false else S.has q }
theorem shut_all (S : St) (p : Nat) : ∀ k, (S.shut p k).all = S.all
  | 0 => rfl
  | k + 1 => shut_all S p k
theorem shut_has (S : St) (p : Nat) : ∀ k, (S.shut p k).has = S.has
  | 0 => rfl
  | k + 1 => shut_has S p k
theorem shut_fd (S : St) (p : Nat) : ∀ k q j, (S.shut p k).fd q j = if q = p ∧ j < k then 0 else S.fd q j
  | 0, q, j => by simp [St.shut]
  | k + 1, q, j => by
    show setFd (S.shut p k).fd p k 0 q j = _
    unfold setFd
    rw [shut_fd S p k q j]
    by_cases h1 : q = p
    · subst h1
      by_cases h2 : j = k
      · subst h2; simp
      · by_cases h3 : j < k
        · rw [if_neg (by omega), if_pos ⟨rfl, h3⟩, if_pos ⟨rfl, by omega⟩]
        · rw [if_neg (by omega), if_neg (by omega), if_neg (by omega)]
    · rw [if_neg (by omega), if_neg (by omega), if_neg (by omega)]
theorem St.Inv.init : St.init.Inv := ⟨fun _ _ _ _ => by simp [St.init], fun _ _ _ _ _ => rfl⟩
theorem St.Inv.begin {S : St} (h : S.Inv) (p : Nat) : (S.begin p).Inv :=
  ⟨h.le, fun q k hq hk hh => h.none q k hq hk (by simp only [St.begin] at hh; split at hh <;> first | cases hh | exact hh)⟩
theorem St.Inv.fork {S : St} (h : S.Inv) {p q : Nat} (hp : p < 6) : (S.fork p q).Inv := by
  refine ⟨fun x k hx hk => ?_, fun x k hx hk hh => ?_⟩
  · simp only [St.fork]; split
    · exact h.le p k hp hk
    · exact h.le x k hx hk
  · simp only [St.fork] at hh ⊢
    split at hh
    · cases hh
    · rename_i e; rw [if_neg e]; exact h.none x k hx hk hh
theorem St.Inv.give {S : St} (h : S.Inv) {p n : Nat} (hh : S.has p = true) (hn : n ≤ S.all.length) : (S.give p n).Inv := by
  refine ⟨fun x k hx hk => ?_, fun x k hx hk hf => ?_⟩
  · simp only [St.give, setFd]; split
    · exact hn
    · exact h.le x k hx hk
  · simp only [St.give, setFd] at hf ⊢
    rw [if_neg (by rintro ⟨rfl, _⟩; rw [hh] at hf; cases hf)]
    exact h.none x k hx hk hf
theorem St.Inv.push {S : St} (h : S.Inv) (o : Op3) : (S.push o).Inv := ⟨fun x k hx hk => by have := h.le x k hx hk; simp [St.push]; omega, h.none⟩
theorem St.Inv.close {S : St} (h : S.Inv) (p k : Nat) : (S.close p k).Inv := by
  refine ⟨fun x j hx hj => ?_, fun x j hx hj hf => ?_⟩
  · simp only [St.close, setFd]; split
    · omega
    · exact h.le x j hx hj
  · simp only [St.close, setFd] at hf ⊢; split
    · rfl
    · exact h.none x j hx hj hf
theorem St.Inv.move {S : St} (h : S.Inv) (p k : Nat) (pos : Int) : (S.move p k pos).Inv := ⟨fun x j hx hj => by have := h.le x j hx hj; simpa [St.move] using this, h.none⟩
theorem St.Inv.shut {S : St} (h : S.Inv) (p : Nat) : ∀ k, (S.shut p k).Inv
  | 0 => h
  | k + 1 => (St.Inv.shut h p k).close p k
theorem St.Inv.endp {S : St} (h : S.Inv) (p : Nat) : (S.endp p).Inv := by
  refine ⟨(h.shut p 8).le, fun x k hx hk hf => ?_⟩
  simp only [St.endp] at hf
  show (S.shut p 8).fd x k = 0
  rw [shut_fd]
  by_cases e : x = p
  · rw [if_pos ⟨e, hk⟩]
  · rw [if_neg e] at hf; rw [if_neg (by omega)]; exact h.none x k hx hk hf
end Go.Proofs.Ytdiginkpclbmdaa
