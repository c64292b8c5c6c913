/- The walks of SameIds and SameRequests, of two lists that say the same. -/
import Derived.Test.YtjlenocmfeggdaaImpM
namespace Go.Proofs.Ytjlenocmfeggdaa
open Go.RowKit
attribute [local go_sem] cell_alloc_some frozen_alloc_some
theorem sameids_any (w : World) (b1 b2 : Nat) (u v : Value) (n : Nat) (l : List Int) (hu : w.ownsRow b1 42 1 u n (l.map u32v)) (hv : w.ownsRow b2 42 1 v n (l.map u32v)) (hn : n ≤ 1000) :
    Calls Try.prog 62 #[u, v] w fun e w' => e = .returned (.bool true) ∧ Keep none_ w w' := by
  have hl : l.length = n := by have := hu.1; rw [List.length_map] at this; omega
  obtain ⟨A, ca, rfl, _, _⟩ := own_form hu
  obtain ⟨B, cb, rfl, _, _⟩ := own_form hv
  have HU := Lib.hid hu
  have HV := Lib.hid hv
  have HL := Lib.hid hl
  clear hu hv hl
  go_enter Try.func62, Try.ntmps62
  go_wp2_with fail
  go_loopw [5] (fun x wr => ∃ k : Nat, k ≤ n ∧ x = .int .i64 k ∧ Hid (∃ m, wr = w.drewN m)) (fun x _ => n - (intOf x).toNat)
  case atStart => exact ⟨0, by omega, rfl, 0, rfl⟩
  case round =>
    obtain ⟨k, hk, rfl, HW⟩ := hrel
    obtain ⟨m, rfl⟩ := HW.out
    clear HW
    by_cases hkn : k < n
    · have i1 : (0 : Int) ≤ (k : Int) := by omega
      have i2 : (k : Int) < (n : Int) := by omega
      obtain ⟨x, hx⟩ : ∃ x, l[k]? = some x := ⟨_, List.getElem?_eq_getElem (by have := HL.out; omega)⟩
      obtain ⟨ga, hA⟩ : ∃ g, A = some ⟨g, 0, none⟩ := by
        obtain ⟨g, c, hv, _⟩ := HU.out.form (by omega)
        injection hv with e
        exact ⟨g, e⟩
      obtain ⟨gb, hB⟩ : ∃ g, B = some ⟨g, 0, none⟩ := by
        obtain ⟨g, c, hv, _⟩ := HV.out.form (by omega)
        injection hv with e
        exact ⟨g, e⟩
      subst hA hB
      have hka := HU.out.cellAt k (by omega)
      have hkb := HV.out.cellAt k (by omega)
      rw [List.getElem?_map, hx] at hka hkb
      have hka' : w.cell? ⟨ga, k, none⟩ = some (.int .u32 x) := hka
      have hkb' : w.cell? ⟨gb, k, none⟩ = some (.int .u32 x) := hkb
      have hq : (x == x) = true := by simp
      clear hx hka hkb
      go_wp2
      go_quiet (fail)
      go_wp2
      go_roundw
      case rel => exact ⟨k + 1, by omega, by go_num, m + nq, rfl⟩
      case measure => simp [intOf]; omega
    · have i2 : ¬ ((k : Int) < (n : Int)) := by omega
      go_wp2
      go_ret
      exact ⟨rfl, Keep.ofDrew _ _⟩
theorem eq_req (x : Req) (w : World) : (Op.equalIn 10000 44 (.agg #[.int .u32 x.id, .bool x.wr, .int .i64 x.sec, .int .i64 x.fr, .int .u8 x.own]) (.agg #[.int .u32 x.id, .bool x.wr, .int .i64 x.sec, .int .i64 x.fr, .int .u8 x.own])).run Try.prog w = .ok true w := by
  go_simp
set_option maxHeartbeats 1000000 in
theorem samereqs_any (w : World) (b1 b2 : Nat) (u v : Value) (n : Nat) (l : List Req) (hu : w.ownsRow b1 44 5 u n (flatQ l)) (hv : w.ownsRow b2 44 5 v n (flatQ l)) (hn : n ≤ 1000) :
    Calls Try.prog 56 #[u, v] w fun e w' => e = .returned (.bool true) ∧ Keep none_ w w' := by
  have hl : l.length = n := by have := hu.1; rw [flatQ_len] at this; omega
  obtain ⟨A, ca, rfl, _, _⟩ := own_form hu
  obtain ⟨B, cb, rfl, _, _⟩ := own_form hv
  have HU := Lib.hid hu
  have HV := Lib.hid hv
  have HL := Lib.hid hl
  clear hu hv hl
  go_enter Try.func56, Try.ntmps56
  go_wp2_with fail
  go_loopw [5] (fun x wr => ∃ k : Nat, k ≤ n ∧ x = .int .i64 k ∧ Hid (∃ m, wr = w.drewN m)) (fun x _ => n - (intOf x).toNat)
  case atStart => exact ⟨0, by omega, rfl, 0, rfl⟩
  case round =>
    obtain ⟨k, hk, rfl, HW⟩ := hrel
    obtain ⟨m, rfl⟩ := HW.out
    clear HW
    by_cases hkn : k < n
    · have i1 : (0 : Int) ≤ (k : Int) := by omega
      have i2 : (k : Int) < (n : Int) := by omega
      obtain ⟨x, hx⟩ : ∃ x, l[k]? = some x := ⟨_, List.getElem?_eq_getElem (by have := HL.out; omega)⟩
      obtain ⟨ga, hA⟩ : ∃ g, A = some ⟨g, 0, none⟩ := by
        obtain ⟨g, c, hv, _⟩ := HU.out.form (by omega)
        injection hv with e
        exact ⟨g, e⟩
      obtain ⟨gb, hB⟩ : ∃ g, B = some ⟨g, 0, none⟩ := by
        obtain ⟨g, c, hv, _⟩ := HV.out.form (by omega)
        injection hv with e
        exact ⟨g, e⟩
      subst hA hB
      obtain ⟨a0, a1, a2, a3, a4⟩ := own_reqCells (ownsRow_base HU.out (Nat.zero_le _)) hx
      obtain ⟨d0, d1, d2, d3, d4⟩ := own_reqCells (ownsRow_base HV.out (Nat.zero_le _)) hx
      have hq := eq_req x
      clear hx
      go_wp2
      go_quiet (fail)
      go_wp2
      go_roundw
      case rel => exact ⟨k + 1, by omega, by go_num, m + nq, rfl⟩
      case measure => simp [intOf]; omega
    · have i2 : ¬ ((k : Int) < (n : Int)) := by omega
      go_wp2
      go_ret
      exact ⟨rfl, Keep.ofDrew _ _⟩
end Go.Proofs.Ytjlenocmfeggdaa
