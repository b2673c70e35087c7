/- SHA: the hash that nobody made. -/
import Derived.Test.YtbbfcamopdckmaaDoorS13
set_option linter.unusedSimpArgs false
set_option linter.unusedVariables false
set_option maxRecDepth 100000
namespace Go.Proofs.YtbbfcamopdckmaaDoor
open Go Go.Sh

def Z0 : List Value := [(.int .u64 ((0 : UInt64)).toNat), (.int .u64 ((0 : UInt64)).toNat), (.int .u64 ((0 : UInt64)).toNat), (.int .u64 ((0 : UInt64)).toNat), (.int .u64 ((0 : UInt64)).toNat), (.int .u64 ((0 : UInt64)).toNat), (.int .u64 ((0 : UInt64)).toNat), (.int .u64 ((0 : UInt64)).toNat), (.slice none 0 0), (.int .u64 ((0 : UInt64)).toNat), (.bool false)]
/-- no hash: none, or the type's zero -/
def Dead (w : World) (h : Option Addr) : Prop := h = none ∨ ∃ p, h = some ⟨p, 0, none⟩ ∧ Blk w p Z0 THash
theorem Dead.no {w w' : World} {h : Option Addr} (hd : Dead w h) (hm : Mod NoB w w') : Dead w' h := hd.imp id fun ⟨p, e, hb⟩ => ⟨p, e, hb.no hm⟩
theorem dead_there {w : World} {h : Option Addr} (hd : Dead w h) : Calls Tryd.prog 42 #[.pointer h] w (Ret fun v w' => v = .bool false ∧ w' = w) := by
  refine call42 _ ?_
  unfold sh42
  refine ps_neq_ptr (e := THash) (by kernel_rfl) ⟨_, rfl, ?_⟩
  rcases hd with rfl | ⟨p, rfl, hb⟩
  · exact ⟨rfl, rfl⟩
  · exact ⟨false, hb.rd1 (o := 10) rfl, rfl, rfl⟩
theorem dead_write {w : World} {h : Option Addr} {s : Slc} (hd : Dead w h) : Calls Tryd.prog 24 #[.pointer h, .slice s.a s.len s.cap] w (Ret fun v w' => v = .int .i64 1 ∧ w' = w) := by
  refine call24 _ _ ?_
  unfold sh24
  refine callK_ret (dead_there hd) ?_
  rintro v w1 ⟨rfl, rfl⟩
  refine ⟨false, rfl, ?_⟩
  exact condK_i (fun _ => ⟨rfl, rfl⟩) fun e => by cases e
theorem dead_copy {w : World} {h : Option Addr} (hd : Dead w h) : Calls Tryd.prog 23 #[.pointer h] w (Ret fun v w' => v = .pointer none ∧ w' = w) := by
  refine call23 _ ?_
  unfold sh23
  refine callK_ret (dead_there hd) ?_
  rintro v w1 ⟨rfl, rfl⟩
  refine ⟨false, rfl, ?_⟩
  exact condK_i (fun _ => ⟨rfl, rfl⟩) fun e => by cases e
theorem dead_sum {w : World} {h : Option Addr} (hd : Dead w h) : Calls Tryd.prog 28 #[.pointer h] w (Ret fun v w' => v = .slice none 0 0 ∧ w' = w) := by
  refine call28 _ ?_
  unfold sh28
  refine callK_ret (dead_copy hd) ?_
  rintro v w1 ⟨rfl, rfl⟩
  refine ⟨none, rfl, ps_eql_ptr (e := THash) (by kernel_rfl) ⟨_, rfl, ?_⟩⟩
  exact condK_i (fun _ => ⟨rfl, rfl⟩) fun e => by cases e

theorem iPtr : ∃ i, Tryd.prog.info? 33 = some i ∧ i.zero = some (.pointer none) ∧ i.size = 1 ∧ i.bytes = 8 := info_of (by kernel_rfl) (by kernel_rfl) (by kernel_rfl)
theorem uPtrs : Tryd.prog.underlying 49 = some (.slice 33) := by kernel_rfl

theorem law_none {W : World} {b : Slc} (hg : Glob W) :
    Calls Tryd.prog 7 #[.slice b.a b.len b.cap] W (Ret fun v w' => v = .bool true ∧ Mod NoB W w') := by
  refine call7 _ ?_
  unfold sh7
  refine callK_ret (c_awake hg) ?_
  rintro v w1 ⟨rfl, hm1⟩
  refine ⟨true, rfl, ?_⟩
  show condK false _ _
  refine condK_i (fun e => by cases e) fun _ => ?_
  refine sem_box (l := Z0) rfl fun p w2 hN2 hb2 => ⟨_, rfl, ?_⟩
  have hm2 := hm1.tr hN2.mod
  obtain ⟨i', h1, h2, h3, h4⟩ := iPtr
  refine sem_lit (l := [.pointer none, .pointer (some ⟨p, 0, none⟩)]) [.pointer none, .pointer (some ⟨p, 0, none⟩)] uPtrs h1 h2 h3 (by decide) rfl (by decide) (by decide) rfl (fun v hv => by rcases List.mem_cons.1 hv with rfl | hv; rfl; rcases List.mem_cons.1 hv with rfl | hv; rfl; cases hv) rfl fun q w3 hN3 hb3 => ⟨⟨some ⟨q, 0, none⟩, 2, 2⟩, rfl, ?_⟩
  have hm3 := hm2.tr hN3.mod
  have ho := own_whole (n := 2) (k := 1) hb3 rfl
  have hdd : ∀ k, k < 2 → ∃ h, SlRd w3 ⟨some ⟨q, 0, none⟩, 2, 2⟩ 1 [.pointer none, .pointer (some ⟨p, 0, none⟩)] ∧ ([.pointer none, .pointer (some ⟨p, 0, none⟩)] : List Value)[k]? = some (.pointer h) ∧ Dead w3 h := by
    intro k hk
    match k, hk with
    | 0, _ => exact ⟨none, ho.rd, rfl, .inl rfl⟩
    | 1, _ => exact ⟨_, ho.rd, rfl, .inr ⟨p, rfl, hb2.no hN3.mod⟩⟩
  refine ⟨fun l' w' => match l' with | [.i _ k] => ∃ k' : Nat, k = k' ∧ k' ≤ 2 ∧ Mod NoB w3 w' | _ => False, fun l' _ => match l' with | [.i _ k] => (2 - k).toNat | _ => 0, ⟨0, rfl, by omega, Mod.refl _ _⟩, ?_⟩
  rintro k w4 ⟨k', rfl, hk, hm4⟩
  refine condK_i (fun hlt => ?_) fun hge => ⟨rfl, hm3.tr hm4⟩
  have hk' : k' < 2 := by simp at hlt; omega
  obtain ⟨h, hr, he, hd⟩ := hdd k' hk'
  have hrd : ∀ w5, Mod NoB w3 w5 → Rd w5 ((⟨q, 0, none⟩ : Addr).add (k' * 1)) [.pointer h] := fun w5 hm5 => by
    obtain ⟨a, ea, hx⟩ := hr.at (i := k') (us := [.pointer h]) (by simp only []; omega) (by omega) fun j u hu => by
      cases j with
      | zero => simp at hu; subst hu; simp [he]
      | succ j => simp at hu
    cases ea
    exact hx.mod hm5 fun h => h
  refine ⟨⟨by omega, by simp only []; omega⟩, h, by simp only [Int.toNat_natCast]; exact hrd _ hm4, ?_⟩
  refine sem_rows [b] rfl rfl (by omega) (by omega) fun x e w5 hN5 hx hbz hox => ⟨x, rfl, ?_⟩
  have hm5 := hm4.tr hN5.mod
  refine callK_ret (dead_write (hd.no hm5)) ?_
  rintro v w6 ⟨rfl, rfl⟩
  refine ⟨1, rfl, condK_i (fun e => by simp at e) fun _ => ?_⟩
  refine ⟨⟨by omega, by simp only []; omega⟩, h, by simp only [Int.toNat_natCast]; exact hrd _ hm5, ?_⟩
  refine callK_ret (dead_sum (hd.no hm5)) ?_
  rintro v w7 ⟨rfl, rfl⟩
  refine ⟨⟨none, 0, 0⟩, rfl, condK_i (fun e => by simp at e) fun _ => ?_⟩
  refine ⟨⟨by omega, by simp only []; omega⟩, h, by simp only [Int.toNat_natCast]; exact hrd _ hm5, ?_⟩
  refine callK_ret (dead_copy (hd.no hm5)) ?_
  rintro v w8 ⟨rfl, rfl⟩
  refine ⟨none, rfl, ps_neq_ptr (e := THash) (by kernel_rfl) ⟨_, rfl, condK_i (fun e => by cases e) fun _ => ?_⟩⟩
  refine ⟨⟨k' + 1, wrap_nat (by omega), by omega, hm5⟩, ?_⟩
  rw [wrap_nat (by omega)]; (try simp only []); omega
end Go.Proofs.YtbbfcamopdckmaaDoor
