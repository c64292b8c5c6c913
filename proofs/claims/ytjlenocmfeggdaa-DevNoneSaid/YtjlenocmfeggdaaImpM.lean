/- The walks of IndexFunc and DeleteFunc of requests, at out's closure. -/
import Derived.Test.YtjlenocmfeggdaaImpL
namespace Go.Proofs.Ytjlenocmfeggdaa
open Go.RowKit
attribute [local go_sem] cell_alloc_some frozen_alloc_some
theorem own_reqCells {w : World} {g n cap i : Nat} {l : List Req} {r : Req} (hq : w.ownsRow 0 44 5 (.slice (some ⟨g, 0, none⟩) n cap) n (flatQ l)) (hr : l[i]? = some r) :
    w.cell? ⟨g, i * 5, none⟩ = some (.int .u32 r.id) ∧ w.cell? ⟨g, i * 5 + 1, none⟩ = some (.bool r.wr) ∧ w.cell? ⟨g, i * 5 + 2, none⟩ = some (.int .i64 r.sec) ∧ w.cell? ⟨g, i * 5 + 3, none⟩ = some (.int .i64 r.fr) ∧ w.cell? ⟨g, i * 5 + 4, none⟩ = some (.int .u8 r.own) := by
  have key : ∀ j u, (reqc r)[j]? = some u → w.cell? ⟨g, i * 5 + j, none⟩ = some u := fun j u hj => by
    have := ownsRow_cell hq (flatQ_get l i r j u hr hj)
    rw [Addr.add_mid, Nat.zero_add] at this
    exact this
  exact ⟨key 0 _ rfl, key 1 _ rfl, key 2 _ rfl, key 3 _ rfl, key 4 _ rfl⟩
/-- the first that is such, from k on (n: there is none) -/
def firstP (p : Req → Bool) (l : List Req) : Nat := (l.findIdx p)
section
variable {base fid c tc cs ci : Nat} {x : Value} {W W' : World} {ids : List Int}
def delv (cs ci : Nat) : Value := .func (.func 68) #[] #[.pointer (some ⟨cs, 0, none⟩), .pointer (some ⟨ci, 0, none⟩)]
set_option maxRecDepth 100000 in
set_option maxHeartbeats 1000000 in
theorem indexfunc_any {p : Req → Bool} (hcf : ∀ (xs : Array Value) (w : World), (callFunc fid xs).run Try.prog w = .ok (.enter fid xs) w) (hp : Says fid c tc x p) (h : Env base fid c tc cs ci x W []) (hb : base ≤ W.heap.size)
    {g n cap : Nat} {l : List Req} (hg : g < base) (hq : W.ownsRow 0 44 5 (.slice (some ⟨g, 0, none⟩) n cap) n (flatQ l)) (hn : n ≤ 8) :
    Calls Try.prog 76 #[.slice (some ⟨g, 0, none⟩) n cap, delv cs ci] W fun e w' => e = .returned (.int .i64 (if firstP p l < n then (firstP p l : Int) else -1)) ∧ Env base fid c tc cs ci x w' (((l.take (firstP p l + 1)).filter p).map (·.id)) ∧ Keep (fun b => base ≤ b) W w' := by
  have hlen : l.length = n := by have h1 := hq.1; rw [flatQ_len] at h1; omega
  have hle : firstP p l ≤ n := by unfold firstP; rw [← hlen]; exact List.findIdx_le_length
  have hnot : ∀ j (r : Req), j < firstP p l → l[j]? = some r → p r = false := fun j r hj hr => by
    obtain ⟨hjl, rfl⟩ := List.getElem?_eq_some_iff.1 hr
    exact Bool.eq_false_iff.2 (by simpa using List.not_of_lt_findIdx hj)
  have hyes : ∀ r : Req, l[firstP p l]? = some r → p r = true := fun r hr => by
    obtain ⟨hjl, rfl⟩ := List.getElem?_eq_some_iff.1 hr
    exact List.findIdx_getElem (w := hjl)
  have htake : ∀ k, k ≤ firstP p l → (l.take k).filter p = [] := fun k hk => by
    rw [List.filter_eq_nil_iff]
    intro r hr hpr
    obtain ⟨j, hj, rfl⟩ := List.mem_iff_getElem.1 hr
    have hj' : j < k := by have := hj; rw [List.length_take] at this; omega
    have := hnot j l[j] (by omega) (List.getElem?_eq_getElem (by omega))
    rw [List.getElem_take, this] at hpr
    cases hpr
  obtain ⟨f, hf⟩ : ∃ f, f = firstP p l := ⟨_, rfl⟩
  rw [← hf] at hle hnot hyes htake ⊢
  clear hf
  obtain ⟨res, hres⟩ : ∃ res : Int, res = if f < n then (f : Int) else -1 := ⟨_, rfl⟩
  rw [← hres]
  have HRES := Lib.hid hres
  have HNOT := Lib.hid hnot
  have HYES := Lib.hid hyes
  have HTAKE := Lib.hid htake
  have HLEN := Lib.hid hlen
  have HE := Lib.hid h
  have HQ := Lib.hid hq
  have HC : Hid (∀ {V : World}, Env base fid c tc cs ci x V [] → base ≤ V.heap.size → ∀ r, _) := fun he hbb r => out1_any hcf hp he (by simp) hbb r
  have HB : Hid (base ≤ W.heap.size) := hb
  clear hres hnot hyes htake hlen h hq hp hcf hb
  unfold delv
  go_enter Try.func76, Try.ntmps76
  go_wp2_with fail
  go_loopw [8] (fun v V => ∃ k : Nat, k ≤ f ∧ v = .int .i64 k ∧ Hid (Env base fid c tc cs ci x V []) ∧ Hid (Keep (fun b => base ≤ b) W V)) (fun v _ => 8 - (intOf v).toNat)
  case atStart => exact ⟨0, by omega, rfl, HE, Keep.refl _ _⟩
  case round =>
    obtain ⟨k, hk, rfl, hE, hK⟩ := hrel
    by_cases hkn : k < n
    · have i0 : (0 : Int) ≤ (k : Int) := by omega
      have i1 : (k : Int) < (n : Int) := by omega
      obtain ⟨r, hr⟩ : ∃ r, l[k]? = some r := ⟨_, List.getElem?_eq_getElem (by have := HLEN.out; omega)⟩
      have hqV := ownsRow_keep HQ.out hK.out (fun b hb e => by injection hb with hb; have h1 : g = b := hb; have h2 : base ≤ b := e; omega)
      obtain ⟨c0, c1, c2, c3, c4⟩ := own_reqCells hqV hr
      have H1 := Lib.hid (HC.out hE.out (Nat.le_trans HB.out hK.out.size) r)
      have HR := Lib.hid hr
      clear hqV hr
      by_cases hkf : k < f
      · have hpr := HNOT.out k r hkf HR.out
        rw [hpr] at H1
        clear hpr
        obtain ⟨rid, rwr, rsec, rfr, rown⟩ := r
        unfold reqc at H1
        go_wp2_with fail
        refine H1.out.mono ?_
        rintro e V2 ⟨rfl, he2, hk2, _⟩
        have he2' : Env base fid c tc cs ci x V2 [] := by simpa using he2
        have HE2 := Lib.hid he2'
        have HK2 := Lib.hid (hK.out.thenF hk2 (fun _ hx => .inl hx))
        clear he2 he2' hk2 c0 c1 c2 c3 c4
        go_wp2
        go_roundw
        case rel => exact ⟨k + 1, by omega, by go_num, HE2, HK2⟩
        case measure => simp [intOf]; omega
      · obtain rfl : k = f := by omega
        have hpr := HYES.out r HR.out
        rw [hpr] at H1
        have HFIN : Hid (((l.take (k + 1)).filter p).map (·.id) = [] ++ if true = true then [r.id] else []) := by
          rw [List.take_add_one, HR.out, List.filter_append, HTAKE.out k (Nat.le_refl _)]
          simp [hpr, Hid]
        have HRS : Hid (res = k) := by rw [HRES.out, if_pos hkn]; exact Lib.hid rfl
        clear hpr
        obtain ⟨rid, rwr, rsec, rfr, rown⟩ := r
        unfold reqc at H1
        go_wp2_with fail
        refine H1.out.mono ?_
        rintro e V2 ⟨rfl, he2, hk2, _⟩
        have HE2 := Lib.hid he2
        have HK2 := Lib.hid (hK.out.thenF hk2 (fun _ hx => .inl hx))
        clear he2 hk2 c0 c1 c2 c3 c4
        go_wp2
        go_ret
        exact ⟨by rw [HRS.out]; rfl, by rw [HFIN.out]; exact HE2.out, HK2.out⟩
    · have HRS : Hid (res = -1) := by rw [HRES.out, if_neg (by omega)]; exact Lib.hid rfl
      have hkn' : ¬ ((k : Int) < (n : Int)) := by omega
      have HFIN : Hid (((l.take (f + 1)).filter p).map (·.id) = []) := by
        rw [List.take_of_length_le (by have := HLEN.out; omega), ← List.take_of_length_le (l := l) (i := f) (by have := HLEN.out; omega), HTAKE.out f (Nat.le_refl _)]; exact Lib.hid rfl
      go_wp2
      go_ret
      exact ⟨by rw [HRS.out]; rfl, by rw [HFIN.out]; exact hE.out, hK.out⟩
end
end Go.Proofs.Ytjlenocmfeggdaa
