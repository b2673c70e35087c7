/- The forms of the translated functions, their contracts and the plain laws behind them, put together by a program. -/
import Derived.Test.YtagjijbaghnmfaaGreatDoorPV16
import Derived.Lib.Bytealg
import Derived.Test.YtagjijbaghnmfaaGreatDoorProg
set_option linter.unusedSimpArgs false
set_option linter.unusedVariables false
set_option maxRecDepth 1000000
set_option maxHeartbeats 8000000
section
namespace Go.Proofs.YtagjijbaghnmfaaGreatDoor
open Go Go.Sh Go.X
noncomputable def keyR (xs : List XV) (h : Hp) : Option (List (List Nat)) := match xs with
  | [x] => rowsOf h x
  | _ => none
def DigTab (t : Tab) : Prop := ∀ k r, (k, r) ∈ t → BOk r ∧ small k ∧ sha (k.map toB).flatten = toB r
theorem digC_ok {t : Tab} (ht : DigTab t) : ∀ f xs h y h', tabC 135 keyR t f xs h = some (y, h') → CallOk Tryz.prog GS f xs h y h' :=
  tabC_ok fun xs h k r hk hm => by
    obtain ⟨hb, hs, hp⟩ := ht k r hm
    refine ⟨hb, fun S0 w0 ρ w vs hg hi hx => ?_⟩
    unfold keyR at hk
    split at hk
    · next x =>
      simp only [XRs] at hx
      obtain ⟨v, vs', rfl, h2, rfl⟩ := hx
      obtain ⟨s, ss, rfl, h5, h6, h7, h8⟩ := rowsOf_ok hi hk h2
      exact ret_mono (c_sumW (X := fun x => x < w.heap.size) hg.sha ⟨ss, h5, h6, h7, fun i a b => h8 i a b⟩ (fun _ h => h) (by have := hs.1; omega) (by have := hs.2; simp; omega)) fun v w' ⟨x, e1, e2, e3, e4⟩ => ⟨x, _, e1, by rw [← hp]; exact e2, e3, e4⟩
    · cases hk
abbrev ShTab := List (List Nat × Nat × List Nat)
noncomputable def lookS (k : List Nat) (t : ShTab) : Option (Nat × List Nat) := List.rec (motive := fun _ => Option (Nat × List Nat)) none (fun q _ ih => br (eqN q.1 k) (some q.2) ih) t
theorem lookS_mem {k : List Nat} {r : Nat × List Nat} : ∀ {t : ShTab}, lookS k t = some r → (k, r) ∈ t
  | [], h => by cases h
  | q :: t, h => by
    have h : br (eqN q.1 k) (some q.2) (lookS k t) = some r := h
    cases hb : eqN q.1 k with
    | true =>
      rw [hb, br_t] at h
      cases h
      rw [← eqN_eq hb]
      exact List.mem_cons_self
    | false =>
      rw [hb, br_f] at h
      exact List.mem_cons_of_mem _ (lookS_mem h)
def ShOk (t : ShTab) : Prop := ∀ k a l, (k, a, l) ∈ t → k.length ≤ 1000 ∧ (∀ b ∈ l, b < 256) ∧ shardOf (dg (toB k)) = (a : Int) ∧ way (dg (toB k)) = toB l
noncomputable def shQ (t : ShTab) (f : FuncId) (xs : List XV) : Option XV := match xs with
  | [.str k] => X.br (Nat.beq f 183) (onO (lookS k t) fun q => some (.int .i64 (.ofNat q.1))) (X.br (Nat.beq f 326) (onO (lookS k t) fun q => some (.str q.2)) none)
  | _ => none
theorem quiet_of {f : FuncId} {k : List Nat} {y : XV} {v : Value} (hx : ∀ ρ, (∀ x ∈ k, x < 256) → XR ρ y v) (hc : ∀ w, GS w → Calls Tryz.prog f #[.string ⟨(toB k).toArray⟩] w (Ret fun u w' => u = v ∧ Mod NoB w w')) (h : Hp) : QuietOk Tryz.prog GS f [.str k] h y := by
  intro S0 w0 ρ w vs hG hi hxs
  simp only [XRs] at hxs
  obtain ⟨u, vs', rfl, h4, rfl⟩ := hxs
  simp only [XR] at h4
  obtain ⟨h5, rfl⟩ := h4
  refine Calls.mono (hc w (hG w hi.mod)) fun e w' he => ?_
  cases e <;> first | exact he.elim | skip
  obtain ⟨rfl, hm⟩ := he
  exact ⟨_, rfl, hx ρ h5, hi.no hm⟩
theorem shQ_ok {t : ShTab} (ht : ShOk t) {f : FuncId} {xs : List XV} {y : XV} (hr : shQ t f xs = some y) (h : Hp) : QuietOk Tryz.prog GS f xs h y := by
  unfold shQ at hr
  split at hr
  · next k =>
    cases h1 : Nat.beq f 183 with
    | true =>
      rw [h1, br_t] at hr
      obtain ⟨⟨a, l⟩, h2, h3⟩ := onO_some hr
      cases h3
      obtain ⟨g1, g2, g3, g4⟩ := ht k a l (lookS_mem h2)
      have := Nat.eq_of_beq_eq_true h1
      subst this
      refine quiet_of (v := .int .i64 (a : Int)) (fun ρ _ => by simp only [XR]; rfl) (fun w hg => ?_) h
      rw [← g3]
      exact c_shardOf hg.sha (by rw [toB_len]; omega)
    | false =>
      rw [h1, br_f] at hr
      obtain ⟨h1', hr1⟩ := br_some hr
      obtain ⟨⟨a, l⟩, h2, h3⟩ := onO_some hr1
      cases h3
      obtain ⟨g1, g2, g3, g4⟩ := ht k a l (lookS_mem h2)
      have := Nat.eq_of_beq_eq_true h1'
      subst this
      refine quiet_of (v := .string ⟨(toB l).toArray⟩) (fun ρ _ => by simp only [XR]; exact ⟨g2, rfl⟩) (fun w hg => ?_) h
      rw [← g4]
      exact c_shardBits hg.sha (by rw [toB_len]; omega)
  · cases hr
noncomputable def cmpN (l : List Nat) : List Nat → Int := List.rec (motive := fun _ => List Nat → Int) (fun m => match m with | [] => .ofNat 0 | _ :: _ => .negSucc 0) (fun a _ ih m => match m with
  | [] => .ofNat 1
  | b :: r => X.br (Nat.blt a b) (.negSucc 0) (X.br (Nat.blt b a) (.ofNat 1) (ih r))) l
theorem lt8 {a b : Nat} (ha : a < 256) (hb : b < 256) : UInt8.ofNat a < UInt8.ofNat b ↔ a < b := by
  rw [UInt8.lt_iff_toNat_lt, UInt8.toNat_ofNat', UInt8.toNat_ofNat']
  omega
theorem cmpN_eq : ∀ {l m : List Nat}, (∀ x ∈ l, x < 256) → (∀ x ∈ m, x < 256) → cmpN l m = Lib.compareBytes (toB l) (toB m)
  | [], [], _, _ => rfl
  | [], _ :: _, _, _ => rfl
  | _ :: _, [], _, _ => rfl
  | a :: l, b :: m, hl, hm => by
    have ha := hl a List.mem_cons_self
    have hb := hm b List.mem_cons_self
    show X.br (Nat.blt a b) (.negSucc 0) (X.br (Nat.blt b a) (.ofNat 1) (cmpN l m)) = if UInt8.ofNat a < UInt8.ofNat b then -1 else if UInt8.ofNat b < UInt8.ofNat a then 1 else Lib.compareBytes (toB l) (toB m)
    rw [← cmpN_eq (fun x hx => hl x (List.mem_cons_of_mem _ hx)) fun x hx => hm x (List.mem_cons_of_mem _ hx)]
    have q1 : (UInt8.ofNat a < UInt8.ofNat b) = (a < b) := propext (lt8 ha hb)
    have q2 : (UInt8.ofNat b < UInt8.ofNat a) = (b < a) := propext (lt8 hb ha)
    simp only [q1, q2]
    cases h1 : Nat.blt a b with
    | true => rw [br_t, if_pos (show a < b from Nat.le_of_ble_eq_true h1)]; rfl
    | false =>
      have : ¬ a < b := fun h => by
        have := Nat.ble_eq_true_of_le h
        rw [show Nat.ble (a + 1) b = Nat.blt a b from rfl, h1] at this; cases this
      rw [br_f, if_neg this]
      cases h2 : Nat.blt b a with
      | true => rw [br_t, if_pos (show b < a from Nat.le_of_ble_eq_true h2)]; rfl
      | false =>
        have : ¬ b < a := fun h => by
          have := Nat.ble_eq_true_of_le h
          rw [show Nat.ble (b + 1) a = Nat.blt b a from rfl, h2] at this; cases this
        rw [br_f, if_neg this]
noncomputable def cmpE (f : FuncId) (xs : List XV) : Option XV := X.br (Nat.beq f 368) (match xs with
  | [.str a, .str b] => some (.int .i64 (cmpN a b))
  | _ => none) none
theorem cmpE_ok {f : FuncId} {xs : List XV} {y : XV} (h : cmpE f xs = some y) : ExtOk Tryz.prog f xs y := by
  unfold cmpE at h
  obtain ⟨h1, hq⟩ := br_some h
  clear h
  have h1 := Nat.eq_of_beq_eq_true h1
  subst h1
  split at hq
  · next a b =>
    cases hq
    intro ρ w vs hvs
    simp only [XRs, XR] at hvs
    obtain ⟨v1, r1, rfl, ⟨ha, rfl⟩, v2, r2, rfl, ⟨hb, rfl⟩, rfl⟩ := hvs
    refine ⟨.int .i64 (Lib.compareBytes (toB a) (toB b)), ?_, by simp only [XR]; rw [cmpN_eq ha hb]⟩
    rw [run_callFunc_extern Tryz.func368 (by kernel_rfl) (by kernel_rfl) (by kernel_rfl) (e := Extern.BytealgCompare.compare) (by kernel_rfl)]
    rw [show ([strV a, strV b] : List Value).toArray = #[.string ⟨(toB a).toArray⟩, .string ⟨(toB b).toArray⟩] from rfl, Lib.run_compareString]
    rfl
  · cases hq
abbrev sd0 : List Nat := [14, 15, 16, 17, 18, 19, 20, 21, 22, 23, 24, 25, 26, 27, 28, 29, 30, 31, 32, 33, 34, 35, 36, 37, 38, 39, 40, 41, 42, 43, 44, 45]
abbrev pk0 : List Nat := [151, 245, 163, 123, 101, 176, 177, 30, 48, 14, 54, 80, 125, 118, 16, 171, 243, 107, 159, 255, 198, 242, 23, 187, 57, 229, 25, 79, 158, 225, 110, 139]
abbrev sd1 : List Nat := [7, 8, 9, 10, 11, 12, 13, 14, 15, 16, 17, 18, 19, 20, 21, 22, 23, 24, 25, 26, 27, 28, 29, 30, 31, 32, 33, 34, 35, 36, 37, 38]
abbrev pk1 : List Nat := [0, 208, 90, 29, 30, 162, 81, 57, 109, 85, 122, 251, 212, 88, 139, 60, 109, 153, 219, 235, 151, 47, 237, 16, 163, 37, 98, 234, 38, 220, 220, 250]
abbrev ta0_0 : List Nat := [1, 0, 0, 0, 0, 0, 0, 0, 1, 107, 0, 0, 0, 0, 0, 0, 0, 1, 0, 0, 0, 0, 0, 0, 0, 1, 0, 0, 0, 0, 0, 0, 0, 0, 0, 0, 0, 0, 0, 0, 0, 0, 0]
abbrev tx0 : List (List Nat) := [ta0_0]
abbrev sg0 : List Nat := [98, 93, 148, 41, 51, 119, 71, 10, 114, 156, 141, 245, 44, 39, 9, 226, 92, 226, 18, 173, 225, 185, 206, 175, 45, 120, 223, 102, 85, 174, 58, 179, 153, 25, 75, 52, 36, 234, 9, 183, 161, 217, 98, 28, 128, 78, 199, 171, 255, 246, 16, 106, 107, 53, 4, 177, 19, 204, 226, 236, 219, 11, 146, 4]
abbrev rr0 : List Nat := [98, 93, 148, 41, 51, 119, 71, 10, 114, 156, 141, 245, 44, 39, 9, 226, 92, 226, 18, 173, 225, 185, 206, 175, 45, 120, 223, 102, 85, 174, 58, 179]
abbrev hw0 : List Nat := [215, 183, 100, 208, 245, 131, 28, 27, 129, 26, 62, 126, 250, 97, 139, 70, 59, 204, 246, 183, 44, 175, 53, 0, 244, 58, 10, 143, 58, 125, 245, 3]
abbrev ta1_0 : List Nat := [2, 0, 0, 0, 0, 0, 0, 0, 2, 0, 0, 0, 0, 0, 0, 0, 0, 0, 0, 0, 0, 0, 0, 0, 1, 58, 185, 34, 32, 84, 201, 20, 146, 209, 216, 92, 5, 85, 92, 163, 24, 82, 153, 231, 183, 243, 163, 192, 137, 94, 10, 232, 77, 17, 190, 225, 238, 4, 231, 103, 130, 210, 33, 155, 209, 34, 157, 145, 237, 150, 46, 104, 251, 43, 172, 41, 100, 125, 197, 221, 191, 236, 40, 109, 19, 211, 121, 100, 90]
abbrev tx1 : List (List Nat) := [ta1_0]
abbrev sg1 : List Nat := [178, 138, 134, 188, 67, 12, 187, 146, 183, 198, 178, 115, 240, 189, 153, 65, 225, 111, 177, 25, 87, 10, 159, 164, 86, 103, 76, 188, 164, 34, 201, 43, 54, 48, 5, 74, 203, 56, 239, 227, 126, 72, 96, 156, 146, 76, 246, 185, 165, 179, 99, 251, 233, 18, 173, 39, 160, 207, 117, 164, 165, 240, 39, 10]
abbrev rr1 : List Nat := [178, 138, 134, 188, 67, 12, 187, 146, 183, 198, 178, 115, 240, 189, 153, 65, 225, 111, 177, 25, 87, 10, 159, 164, 86, 103, 76, 188, 164, 34, 201, 43]
abbrev hw1 : List Nat := [231, 42, 230, 42, 172, 186, 195, 105, 164, 129, 205, 227, 235, 203, 55, 252, 156, 252, 61, 11, 95, 105, 183, 36, 181, 19, 11, 110, 240, 191, 5, 15]
abbrev dt0 : List (List Nat) := [[6], [107]]
abbrev dd0 : List Nat := [115, 194, 218, 222, 51, 34, 35, 150, 79, 24, 93, 211, 127, 217, 189, 75, 252, 121, 6, 72, 251, 206, 221, 25, 200, 87, 166, 42, 181, 99, 140, 78, 107, 158, 225, 106, 192, 105, 57, 213, 156, 187, 84, 193, 117, 51, 64, 93, 96, 71, 88, 101, 27, 176, 193, 120, 215, 0, 30, 41, 45, 141, 93, 55]
abbrev dt1 : List (List Nat) := [[0], [], []]
abbrev dd1 : List Nat := [184, 36, 77, 2, 137, 129, 214, 147, 175, 123, 69, 106, 248, 239, 164, 202, 214, 61, 40, 46, 25, 255, 20, 148, 44, 36, 110, 80, 217, 53, 29, 34, 112, 74, 128, 42, 113, 195, 88, 11, 99, 112, 222, 76, 235, 41, 60, 50, 74, 132, 35, 52, 37, 87, 212, 229, 195, 132, 56, 240, 227, 105, 16, 238]
abbrev dt2 : List (List Nat) := [[4, 0], [184, 36, 77, 2, 137, 129, 214, 147, 175, 123, 69, 106, 248, 239, 164, 202, 214, 61, 40, 46, 25, 255, 20, 148, 44, 36, 110, 80, 217, 53, 29, 34, 112, 74, 128, 42, 113, 195, 88, 11, 99, 112, 222, 76, 235, 41, 60, 50, 74, 132, 35, 52, 37, 87, 212, 229, 195, 132, 56, 240, 227, 105, 16, 238]]
abbrev dd2 : List Nat := [58, 185, 34, 32, 84, 201, 20, 146, 209, 216, 92, 5, 85, 92, 163, 24, 82, 153, 231, 183, 243, 163, 192, 137, 94, 10, 232, 77, 17, 190, 225, 238, 4, 231, 103, 130, 210, 33, 155, 209, 34, 157, 145, 237, 150, 46, 104, 251, 43, 172, 41, 100, 125, 197, 221, 191, 236, 40, 109, 19, 211, 121, 100, 90]
abbrev ky0 : List Nat := [107]
abbrev kd0 : List Nat := [115, 194, 218, 222, 51, 34, 35, 150, 79, 24, 93, 211, 127, 217, 189, 75, 252, 121, 6, 72, 251, 206, 221, 25, 200, 87, 166, 42, 181, 99, 140, 78, 107, 158, 225, 106, 192, 105, 57, 213, 156, 187, 84, 193, 117, 51, 64, 93, 96, 71, 88, 101, 27, 176, 193, 120, 215, 0, 30, 41, 45, 141, 93, 55]
abbrev kw0 : List Nat := [49, 49, 48, 48, 49, 49, 49, 49, 48, 48, 48, 48, 49, 48, 49, 49, 48, 49, 49, 48, 49, 48, 49, 49, 48, 49, 49, 49, 49, 48, 48, 48, 49, 49, 48, 48, 49, 49, 48, 48, 49, 48, 48, 48, 49, 48, 48, 48, 49, 48, 48, 48, 49, 49, 49, 48, 48, 49, 48, 49, 49, 48, 48, 49, 48, 48, 49, 49, 49, 49, 48, 48, 48, 49, 49, 48, 48, 48, 48, 49, 48, 49, 49, 49, 48, 49, 49, 49, 48, 49, 48, 48, 49, 49, 48, 49, 49, 49, 49, 49, 49, 49, 49, 49, 48, 49, 49, 48, 48, 49, 49, 48, 49, 49, 49, 49, 48, 49, 48, 49, 48, 48, 49, 48, 49, 49, 49, 49, 49, 49, 49, 49, 48, 48, 48, 49, 49, 49, 49, 48, 48, 49, 48, 48, 48, 48, 48, 49, 49, 48, 48, 49, 48, 48, 49, 48, 48, 48, 49, 49, 49, 49, 49, 48, 49, 49, 49, 49, 48, 48, 49, 49, 49, 48, 49, 49, 48, 49, 49, 49, 48, 49, 48, 48, 48, 49, 49, 48, 48, 49, 49, 49, 48, 48, 49, 48, 48, 48, 48, 49, 48, 49, 48, 49, 49, 49, 49, 48, 49, 48, 48, 49, 49, 48, 48, 48, 49, 48, 49, 48, 49, 48, 49, 48, 49, 49, 48, 49, 48, 49, 48, 49, 49, 48, 48, 48, 49, 49, 49, 48, 48, 48, 49, 49, 48, 48, 48, 49, 48, 48, 49, 49, 49, 48, 48, 49, 49, 48, 49, 48, 49, 49, 49, 48, 48, 49, 49, 49, 49, 48, 49, 49, 49, 48, 48, 48, 48, 49, 48, 49, 49, 48, 49, 48, 49, 48, 49, 49, 48, 48, 48, 48, 48, 48, 48, 49, 49, 48, 49, 48, 48, 49, 48, 48, 49, 49, 49, 48, 48, 49, 49, 49, 48, 49, 48, 49, 48, 49, 49, 48, 48, 49, 49, 49, 48, 48, 49, 48, 49, 49, 49, 48, 49, 49, 48, 49, 48, 49, 48, 49, 48, 48, 49, 49, 48, 48, 48, 48, 48, 49, 48, 49, 49, 49, 48, 49, 48, 49, 48, 48, 49, 49, 48, 48, 49, 49, 48, 49, 48, 48, 48, 48, 48, 48, 48, 49, 48, 49, 49, 49, 48, 49, 48, 49, 49, 48, 48, 48, 48, 48, 48, 49, 48, 48, 48, 49, 49, 49, 48, 49, 48, 49, 49, 48, 48, 48, 48, 49, 49, 48, 48, 49, 48, 49, 48, 48, 48, 49, 49, 48, 49, 49, 49, 48, 49, 49, 48, 48, 48, 48, 49, 49, 48, 48, 48, 48, 48, 49, 48, 49, 49, 49, 49, 48, 48, 48, 49, 49, 48, 49, 48, 49, 49, 49, 48, 48, 48, 48, 48, 48, 48, 48, 48, 48, 48, 49, 49, 49, 49, 48, 48, 48, 49, 48, 49, 48, 48, 49, 48, 48, 49, 48, 49, 49, 48, 49, 49, 48, 48, 48, 49, 49, 48, 49, 48, 49, 48, 49, 49, 49, 48, 49, 48, 48, 49, 49, 48, 49, 49, 49]
theorem pub0 : pubF (toB sd0) = toB pk0 := by kernel_rfl
theorem mul0 : mulF (numF (drwB (toB sd1) :: tx0.map toB)) = toB rr0 := by kernel_rfl
theorem pub1 : pubF (toB sd1) = toB pk1 := by kernel_rfl
theorem mul1 : mulF (numF (drwB (toB sd0) :: tx1.map toB)) = toB rr1 := by kernel_rfl
theorem how0 : numF (toB rr0 :: toB pk1 :: tx0.map toB) = toB hw0 := by kernel_rfl
theorem sig0 : sigF (toB sd1) (tx0.map toB) = toB sg0 := by
  unfold sigF
  rw [mul0, pub1, how0]
  kernel_rfl
theorem how1 : numF (toB rr1 :: toB pk0 :: tx1.map toB) = toB hw1 := by kernel_rfl
theorem sig1 : sigF (toB sd0) (tx1.map toB) = toB sg1 := by
  unfold sigF
  rw [mul1, pub0, how1]
  kernel_rfl
theorem dig0 : sha (dt0.map toB).flatten = toB dd0 := by kernel_rfl
theorem dig1 : sha (dt1.map toB).flatten = toB dd1 := by kernel_rfl
theorem dig2 : sha (dt2.map toB).flatten = toB dd2 := by kernel_rfl
theorem kdg0 : dg (toB ky0) = toB kd0 := by kernel_rfl
theorem kwy0 : way (toB kd0) = toB kw0 := by kernel_rfl
noncomputable def pubTab : Tab := [([sd0], pk0), ([sd1], pk1)]
theorem pubTab_ok : PubTab pubTab := fun k r h => by
  simp only [pubTab, List.mem_cons, Prod.mk.injEq, List.mem_nil_iff, or_false] at h
  rcases h with ⟨rfl, rfl⟩ | ⟨rfl, rfl⟩
  · exact ⟨⟨by decide, by decide⟩, _, rfl, rfl, pub0⟩
  · exact ⟨⟨by decide, by decide⟩, _, rfl, rfl, pub1⟩
noncomputable def sigTab : Tab := [(sd1 :: tx0, sg0), (sd0 :: tx1, sg1)]
theorem sigTab_ok : SigTab sigTab := fun k r h => by
  simp only [sigTab, List.mem_cons, Prod.mk.injEq, List.mem_nil_iff, or_false] at h
  rcases h with ⟨rfl, rfl⟩ | ⟨rfl, rfl⟩
  · exact ⟨⟨by decide, by decide⟩, _, _, rfl, rfl, ⟨by decide, by decide⟩, sig0⟩
  · exact ⟨⟨by decide, by decide⟩, _, _, rfl, rfl, ⟨by decide, by decide⟩, sig1⟩
noncomputable def howTab : Tab := [(rr1 :: pk0 :: tx1, hw1)]
theorem howTab_ok : HowTab howTab := fun k r h => by
  simp only [howTab, List.mem_cons, Prod.mk.injEq, List.mem_nil_iff, or_false] at h
  obtain ⟨rfl, rfl⟩ := h
  exact ⟨⟨by decide, by decide⟩, _, _, _, rfl, by decide, by decide, ⟨by decide, by decide⟩, how1⟩
noncomputable def digTab : Tab := [(dt0, dd0), (dt1, dd1), (dt2, dd2)]
theorem digTab_ok : DigTab digTab := fun k r h => by
  simp only [digTab, List.mem_cons, Prod.mk.injEq, List.mem_nil_iff, or_false] at h
  rcases h with ⟨rfl, rfl⟩ | ⟨rfl, rfl⟩ | ⟨rfl, rfl⟩
  · exact ⟨⟨by decide, by decide⟩, ⟨by decide, by decide⟩, dig0⟩
  · exact ⟨⟨by decide, by decide⟩, ⟨by decide, by decide⟩, dig1⟩
  · exact ⟨⟨by decide, by decide⟩, ⟨by decide, by decide⟩, dig2⟩
noncomputable def shTab : ShTab := [(ky0, 1, kw0)]
theorem shTab_ok : ShOk shTab := fun k a l h => by
  simp only [shTab, List.mem_cons, Prod.mk.injEq, List.mem_nil_iff, or_false] at h
  obtain ⟨rfl, rfl, rfl⟩ := h
  exact ⟨by decide, by decide, by rw [kdg0]; kernel_rfl, by rw [kdg0]; exact kwy0⟩
theorem GS_GE : ∀ w, GS w → GE w := fun w h => h.ge
theorem x_pow3 (a : F5) : resV (runE 311 [a.v, .int .i64 252, .int .u64 3] ⟨.lf, 0⟩) = some (fpow a 3 252 ⟨1, 0, 0, 0, 0⟩).v := by kernel_rfl
theorem x_pow5 (a : F5) : resV (runE 311 [a.v, .int .i64 253, .int .u64 5] ⟨.lf, 0⟩) = some (fpow a 5 253 ⟨1, 0, 0, 0, 0⟩).v := by kernel_rfl
noncomputable def powQ (f : FuncId) (xs : List XV) : Option XV := br (Nat.beq f 311) (match xs with
  | [x, n, m] => br (sameX n (.int .i64 252)) (br (sameX m (.int .u64 3)) (un5 (fun a => fpow a 3 252 ⟨1, 0, 0, 0, 0⟩) [x]) none) (br (sameX n (.int .i64 253)) (br (sameX m (.int .u64 5)) (un5 (fun a => fpow a 5 253 ⟨1, 0, 0, 0, 0⟩) [x]) none) none)
  | _ => none) none
theorem dry_3 (a : F5) (n m : Int) : DryA [a.v, .int .i64 n, .int .u64 m] := fun _ => rfl
theorem powQ_ok {f : FuncId} {xs : List XV} {y : XV} (hr : powQ f xs = some y) (h : Hp) : QuietOk Tryz.prog GS f xs h y := by
  unfold powQ at hr
  obtain ⟨h1, hr1⟩ := br_some hr
  clear hr
  have := Nat.eq_of_beq_eq_true h1
  subst this
  split at hr1
  · next x n m =>
    cases h2 : sameX n (.int .i64 252) with
    | true =>
      rw [h2, br_t] at hr1
      obtain ⟨h3, hr2⟩ := br_some hr1
      obtain ⟨a, e, rfl⟩ := un5_eq hr2
      cases e
      rw [sameX_eq h2, sameX_eq h3]
      obtain ⟨h', e1⟩ := resV_ex (x_pow3 a)
      exact quiet_dry ((xcalls_ok mixed noD_ok (nE_ok GS_GE) 10).c _ _ _ _ _ e1) (dry_3 a _ _) (dry_F5 _) h
    | false =>
      rw [h2, br_f] at hr1
      obtain ⟨h3, hr2⟩ := br_some hr1
      obtain ⟨h4, hr3⟩ := br_some hr2
      obtain ⟨a, e, rfl⟩ := un5_eq hr3
      cases e
      rw [sameX_eq h3, sameX_eq h4]
      obtain ⟨h', e1⟩ := resV_ex (x_pow5 a)
      exact quiet_dry ((xcalls_ok mixed noD_ok (nE_ok GS_GE) 10).c _ _ _ _ _ e1) (dry_3 a _ _) (dry_F5 _) h
  · cases hr1
noncomputable def baseQ (f : FuncId) (xs : List XV) : Option XV := br (Nat.beq f 137) (match xs with | [] => some (.agg baseP.w) | _ => none) none
noncomputable def qV (f : FuncId) (xs : List XV) (h : Hp) : Option XV := match rightQ f xs h with
  | some r => some r
  | none => (match baseQ f xs with
    | some r => some r
    | none => (match powQ f xs with
      | some r => some r
      | none => fieldQ3 f xs h))
theorem qV_ok {f : FuncId} {xs : List XV} {h : Hp} {y : XV} (hr : qV f xs h = some y) : QuietOk Tryz.prog GS f xs h y := by
  unfold qV at hr
  split at hr
  · next r h1 => cases hr; exact rightQ_ok h1
  · split at hr
    · next r h1 =>
      cases hr
      unfold baseQ at h1
      obtain ⟨h2, h3⟩ := br_some h1
      have := Nat.eq_of_beq_eq_true h2
      subst this
      split at h3
      · cases h3; exact q_Base GS_GE h
      · cases h3
    · split at hr
      · next r h1 => cases hr; exact powQ_ok h1 h
      · exact fieldQ3_ok GS_GE hr
noncomputable def nV : CallsX := ⟨orC pointC (orC (tabC 175 key3 howTab) bitsC), addE, globE, qV, fun _ _ _ => none, fun _ _ _ => none⟩
theorem nV_ok : CallsOk Tryz.prog GS nV := ⟨orC_ok (pointC_ok GS_GE) (orC_ok (howC_ok howTab_ok) bitsC_ok), fun _ _ _ h => addE_ok h, fun _ _ _ h => globE_ok GS_GE h, fun _ _ _ _ h => qV_ok h, fun _ _ _ _ _ h => (by cases h), fun _ _ _ _ _ h => (by cases h)⟩
noncomputable abbrev runV (f : FuncId) (xs : List XV) (h : Hp) : Option (XV × Hp) := (xcalls Tryz.prog noD nV 1000 12).c f xs h
noncomputable def verE (pk sg tx : List Nat) (n : Nat) : Ent := ⟨242, [(none, 0), (none, 1), (none, 2), (some 2, 0)], [.slu 0 0 32 1, .slu 1 0 64 1, .sl (some (2, 0)) 1 1],
  [.row (mapB pk), .row (mapB sg), .cells [.slu 3 0 (len (mapB tx)) 1], .row (mapB tx)], .bool true, [], n⟩
noncomputable def verR (e : Ent) : Bool := (fun r => br (entB e r) (keptB e r) false) (runV e.f e.xs e.heap)
theorem ver_ok {e : Ent} (h : verR e = true) : EntOk Tryz.prog GS e := by
  obtain ⟨h1, h2⟩ := br_and h
  exact ent_of (xcalls_ok mixed noD_ok nV_ok 12) rfl h1 h2
theorem ver1 : verR (verE pk0 sg1 ta1_0 55925) = true := by kernel_rfl
theorem callD_any {P : Program} {f : FuncId} {fn : Func} {c : Code} (hf : P.funcs[f]? = some fn) (hb : fn.body = some c) (args : Array Value) (hl : args.size ≤ fn.ntmps) {u : FrameMode} {w : World} {R : Ending → FrameMode → World → Prop}
    (h : denS P fn.ntmps c (ktSOf P fn R) u [] w) : CallsDIn Fence.wide 0 P f args u w R := by
  refine callsDIn_of_wpSIn hf hb trivial fun c0 cs hu => ?_
  have hs : Sim fn.ntmps [] (args ++ Array.replicate (fn.ntmps - args.size) undef) := ⟨by simp; omega, fun t ht => by cases ht⟩
  have hc0 : c0 = { c0 with mode := u } := by subst hu; rfl
  rw [hc0]
  refine wpSIn_mono (denS_wp (c0 := c0) (cs := cs) c _ u _ _ w hs rfl h) ?_
  intro e a cs' w' hq
  cases e with
  | normal =>
    obtain ⟨hd, u', rfl, env, hs', hk⟩ := hq
    have := retK_post (R := fun e w => R e u' w) hs' hk
    exact ⟨hd, u', rfl, this⟩
  | ret =>
    obtain ⟨hd, u', rfl, env, hs', hk⟩ := hq
    have := retK_post (R := fun e w => R e u' w) hs' hk
    exact ⟨hd, u', rfl, this⟩
  | panic c =>
    obtain ⟨hd, u', rfl, hk⟩ := hq
    exact ⟨hd, u', rfl, hk⟩
  | exit i => exact hq.elim
  | goto l => exact hq.elim
  | outgrown => exact hq.elim
abbrev DQ (f : FuncId) : Prop := ∀ (args : Array Value) (w : World), args.size ≤ 3 → callDK Tryz.prog f args .returning w fun u w' => u = .returning ∧ Mod NoB w w'
theorem dq172 : DQ 172 := fun args w hl => by
  refine callD_any Tryz.func172 (bodyOf_some (by kernel_rfl)) args (Nat.le_trans hl (Nat.le_of_ble_eq_true (by kernel_rfl))) ?_
  exact Exists.intro (.bool false) (And.intro (fun w => rfl) (Exists.intro false (And.intro rfl (And.intro (fun h => by cases h) (And.intro rfl (Mod.refl _ _))))))
theorem dq177 : DQ 177 := fun args w hl => by
  refine callD_any Tryz.func177 (bodyOf_some (by kernel_rfl)) args (Nat.le_trans hl (Nat.le_of_ble_eq_true (by kernel_rfl))) ?_
  exact Exists.intro (.bool false) (And.intro (fun w => rfl) (Exists.intro false (And.intro rfl (And.intro (fun h => by cases h) (And.intro rfl (Mod.refl _ _))))))
theorem dq197 : DQ 197 := fun args w hl => by
  refine callD_any Tryz.func197 (bodyOf_some (by kernel_rfl)) args (Nat.le_trans hl (Nat.le_of_ble_eq_true (by kernel_rfl))) ?_
  exact Exists.intro (.bool false) (And.intro (fun w => rfl) (Exists.intro false (And.intro rfl (And.intro (fun h => by cases h) (And.intro rfl (Mod.refl _ _))))))
theorem dq230 : DQ 230 := fun args w hl => by
  refine callD_any Tryz.func230 (bodyOf_some (by kernel_rfl)) args (Nat.le_trans hl (Nat.le_of_ble_eq_true (by kernel_rfl))) ?_
  exact Exists.intro (.bool false) (And.intro (fun w => rfl) (Exists.intro false (And.intro rfl (And.intro (fun h => by cases h) (And.intro rfl (Mod.refl _ _))))))
theorem dq232 : DQ 232 := fun args w hl => by
  refine callD_any Tryz.func232 (bodyOf_some (by kernel_rfl)) args (Nat.le_trans hl (Nat.le_of_ble_eq_true (by kernel_rfl))) ?_
  exact Exists.intro (.bool false) (And.intro (fun w => rfl) (Exists.intro false (And.intro rfl (And.intro (fun h => by cases h) (And.intro rfl (Mod.refl _ _))))))
theorem dq264 : DQ 264 := fun args w hl => by
  refine callD_any Tryz.func264 (bodyOf_some (by kernel_rfl)) args (Nat.le_trans hl (Nat.le_of_ble_eq_true (by kernel_rfl))) ?_
  exact Exists.intro (.bool false) (And.intro (fun w => rfl) (Exists.intro false (And.intro rfl (And.intro (fun h => by cases h) (And.intro rfl (Mod.refl _ _))))))
theorem dq327 : DQ 327 := fun args w hl => by
  refine callD_any Tryz.func327 (bodyOf_some (by kernel_rfl)) args (Nat.le_trans hl (Nat.le_of_ble_eq_true (by kernel_rfl))) ?_
  exact Exists.intro (.bool false) (And.intro (fun w => rfl) (Exists.intro false (And.intro rfl (And.intro (fun h => by cases h) (And.intro rfl (Mod.refl _ _))))))
theorem dq334 : DQ 334 := fun args w hl => by
  refine callD_any Tryz.func334 (bodyOf_some (by kernel_rfl)) args (Nat.le_trans hl (Nat.le_of_ble_eq_true (by kernel_rfl))) ?_
  exact Exists.intro (.bool false) (And.intro (fun w => rfl) (Exists.intro false (And.intro rfl (And.intro (fun h => by cases h) (And.intro rfl (Mod.refl _ _))))))
theorem dq335 : DQ 335 := fun args w hl => by
  refine callD_any Tryz.func335 (bodyOf_some (by kernel_rfl)) args (Nat.le_trans hl (Nat.le_of_ble_eq_true (by kernel_rfl))) ?_
  exact Exists.intro (.bool false) (And.intro (fun w => rfl) (Exists.intro false (And.intro rfl (And.intro (fun h => by cases h) (And.intro rfl (Mod.refl _ _))))))
theorem dq396 : DQ 396 := fun args w hl => by
  refine callD_any Tryz.func396 (bodyOf_some (by kernel_rfl)) args (Nat.le_trans hl (Nat.le_of_ble_eq_true (by kernel_rfl))) ?_
  exact Exists.intro (.bool false) (And.intro (fun w => rfl) (Exists.intro false (And.intro rfl (And.intro (fun h => by cases h) (And.intro rfl (Mod.refl _ _))))))
theorem dq409 : DQ 409 := fun args w hl => by
  refine callD_any Tryz.func409 (bodyOf_some (by kernel_rfl)) args (Nat.le_trans hl (Nat.le_of_ble_eq_true (by kernel_rfl))) ?_
  exact Exists.intro (.bool false) (And.intro (fun w => rfl) (Exists.intro false (And.intro rfl (And.intro (fun h => by cases h) (And.intro rfl (Mod.refl _ _))))))
theorem dq479 : DQ 479 := fun args w hl => by
  refine callD_any Tryz.func479 (bodyOf_some (by kernel_rfl)) args (Nat.le_trans hl (Nat.le_of_ble_eq_true (by kernel_rfl))) ?_
  exact Exists.intro (.bool false) (And.intro (fun w => rfl) (Exists.intro false (And.intro rfl (And.intro (fun h => by cases h) (And.intro rfl (Mod.refl _ _))))))
noncomputable def anyF (f : FuncId) (l : List Nat) : Bool := List.rec (motive := fun _ => Bool) false (fun a _ ih => X.br (Nat.beq f a) true ih) l
theorem anyF_mem {f : FuncId} : ∀ {l : List Nat}, anyF f l = true → f ∈ l
  | [], h => by cases h
  | a :: l, h => by
    have h : X.br (Nat.beq f a) true (anyF f l) = true := h
    cases h1 : Nat.beq f a with
    | true => rw [Nat.eq_of_beq_eq_true h1]; exact List.mem_cons_self
    | false => rw [h1, br_f] at h; exact List.mem_cons_of_mem _ (anyF_mem h)
noncomputable def dF (f : FuncId) : Bool := anyF f [172, 177, 197, 230, 232, 264, 327, 334, 335, 396, 409, 479]
theorem dF_ok : DefFn Tryz.prog dF := fun f hf => by
  have h := anyF_mem hf
  simp only [List.mem_cons, List.mem_nil_iff, or_false] at h
  rcases h with rfl | rfl | rfl | rfl | rfl | rfl | rfl | rfl | rfl | rfl | rfl | rfl
  · exact ⟨by kernel_rfl, dq172⟩
  · exact ⟨by kernel_rfl, dq177⟩
  · exact ⟨by kernel_rfl, dq197⟩
  · exact ⟨by kernel_rfl, dq230⟩
  · exact ⟨by kernel_rfl, dq232⟩
  · exact ⟨by kernel_rfl, dq264⟩
  · exact ⟨by kernel_rfl, dq327⟩
  · exact ⟨by kernel_rfl, dq334⟩
  · exact ⟨by kernel_rfl, dq335⟩
  · exact ⟨by kernel_rfl, dq396⟩
  · exact ⟨by kernel_rfl, dq409⟩
  · exact ⟨by kernel_rfl, dq479⟩
end Go.Proofs.YtagjijbaghnmfaaGreatDoor
end
section
namespace Go.Proofs.YtagjijbaghnmfaaGreatDoor
open Go Go.Sh
def sh256 (s : List UInt8) (w : World) (R : Ending → World → Prop) : Prop :=
  callK Tryz.prog 341 [.string ⟨s.toArray⟩] w (panR R) fun v w1 => ∃ x : List UInt8, v = (.string ⟨x.toArray⟩) ∧ R (.returned (.string ⟨x.toArray⟩)) w1
theorem call256 (s : List UInt8) {w : World} {R : Ending → World → Prop} (hden : sh256 s w R) : Calls Tryz.prog 256 #[.string ⟨s.toArray⟩] w R :=
  calls_of_form (.seq none .z (.seq none .z .z)) Tryz.func256 (by kernel_rfl) [.s s] (by kernel_rfl) (by kernel_rfl) hden
def sh341 (s : List UInt8) (w : World) (R : Ending → World → Prop) : Prop :=
  condK ((s.length : Int) == (0 : Int)) (R (.returned (.string ⟨([]).toArray⟩)) w) (semK Tryz.prog (Instr.makeSlice 23 (.int .i64 (s.length : Int)) (.int .i64 (s.length : Int))) w fun v w1 => ∃ x : Slc, v = (.slice x.a x.len x.cap) ∧ semK Tryz.prog (Builtin.copy_ #[23, 9] 3 #[.slice x.a x.len x.cap, .string ⟨s.toArray⟩]) w1 fun v1 w2 => ∃ x1 : Int, v1 = (.int .i64 x1) ∧ ((0 ≤ (0 : Int) ∧ (0 : Int) < (x.len : Nat)) ∧ onSome x.a fun a => semK Tryz.prog (Builtin.unsafeString_ #[486, 3] 9 #[.pointer (some (a.add (((0 : Int)).toNat * 1))), .int .i64 (x.len : Int)]) w2 fun v2 w3 => ∃ x2 : List UInt8, v2 = (.string ⟨x2.toArray⟩) ∧ R (.returned (.string ⟨x2.toArray⟩)) w3))
theorem call341 (s : List UInt8) {w : World} {R : Ending → World → Prop} (hden : sh341 s w R) : Calls Tryz.prog 341 #[.string ⟨s.toArray⟩] w R :=
  calls_of_form (.seq none .z (.seq none (.seq none .z (.cond (.seq none .z .z) .z)) (.seq none .z (.seq none .z (.seq none .z .z))))) Tryz.func341 (by kernel_rfl) [.s s] (by kernel_rfl) (by kernel_rfl) hden
end Go.Proofs.YtagjijbaghnmfaaGreatDoor
end
section
namespace Go.Proofs.YtagjijbaghnmfaaGreatDoor
open Go Go.Sh Go.X
section
variable {w : World}
theorem sem_copyStr {t t2 ty : TypeId} {K : Value → World → Prop} (ht : Tryz.prog.underlying t = some (.slice 5)) {b : Nat} {l : List Value} {T : TypeId} {s : List UInt8} (hb : Blk w b l T) (hl : l.length = s.length)
    (hK : ∀ w', Blk w' b (bys s) T → Mod (fun y => y = b) w w' → w'.heap.size = w.heap.size → K (.int .i64 s.length) w') :
    semK Tryz.prog (Builtin.copy_ #[t, t2] ty #[.slice (some ⟨b, 0, none⟩) s.length s.length, .string ⟨s.toArray⟩]) w K := by
  obtain ⟨i5', h51, h52, h53, h54⟩ := i5
  obtain ⟨w', hst, hb', ht'⟩ := store_blk (P := Tryz.prog) (o := 0) (vs := bys s) hb (by simp; omega) (bys_one _)
  have e : putAt l 0 (bys s) = bys s := by
    simp only [putAt, List.take_zero, List.nil_append]
    rw [List.drop_eq_nil_of_le (by simp; omega), List.append_nil]
  rw [e] at hb'
  have hmin : Nat.min s.length s.length = s.length := Nat.min_self _
  refine ⟨_, _, ?_, hK _ hb' ht'.mod ht'.size⟩
  have hex : (ByteArray.extract ⟨s.toArray⟩ 0 s.length).data.map (fun b => Value.int .u8 b.toNat) = (bys s).toArray := by
    have : (ByteArray.extract ⟨s.toArray⟩ 0 s.length).data = s.toArray := by
      rw [ByteArray.data_extract]
      simp
    rw [this]; simp [bys]
  unfold Builtin.copy_
  simp only [List.getElem?_toArray, List.getElem?_cons_zero, List.getElem?_cons_succ, run_underlying ht, Sem.run_bind, Sem.run_pure, Result.andThen_ok, Builtin.lenOf, Builtin.firstCells, goInt, Go.Sh.run_sizeOf h51]
  have hsz : (ByteArray.mk s.toArray).size = s.length := by simp [ByteArray.size]
  simp only [hsz, hmin, hex, hst, Result.andThen_ok]
theorem c_sclone {s : List UInt8} (hn : s.length ≤ 1000000000) : Calls Tryz.prog 256 #[.string ⟨s.toArray⟩] w (Ret fun v w' => v = .string ⟨s.toArray⟩ ∧ Mod NoB w w') := by
  refine call256 _ ?_
  unfold sh256
  have hc : Calls Tryz.prog 341 #[.string ⟨s.toArray⟩] w (Ret fun v w' => v = .string ⟨s.toArray⟩ ∧ Mod NoB w w') := by
    refine call341 _ ?_
    unfold sh341
    obtain ⟨i5', h51, h52, h53, h54⟩ := i5
    refine condK_i (fun h => ?_) fun h => ?_
    · have : s = [] := List.eq_nil_of_length_eq_zero (by have := h; simp at this; simp [this])
      subst this
      exact ⟨rfl, Mod.refl _ _⟩
    · have h0 : s ≠ [] := by rintro rfl; simp at h
      have hp : 0 < s.length := List.length_pos_iff.2 h0
      refine sem_makeSlice (l := s.length) (c := s.length) u26 h51 h52 h53 rfl h54 rfl rfl (by omega) (by omega) (by omega) fun b w1 hN1 hb1 ho1 => ⟨⟨some ⟨b, 0, none⟩, s.length, s.length⟩, rfl, ?_⟩
      have hat := hN1.at_
      refine sem_copyStr u26 hb1 (by simp) fun w2 hb2 hm2 hs2 => ⟨_, rfl, ⟨by omega, by show (0 : Int) < ((s.length : Nat) : Int); omega⟩, ?_⟩
      show semK _ _ _ _
      refine ⟨_, _, Lib.run_unsafeString_row _ 486 3 9 5 uPB (by kernel_rfl) b (bys s).length (shape_of hb2) s h0 (by simp) (by omega) (fun j x hj => ?_), s, rfl, rfl, ?_⟩
      · rw [addl, Nat.zero_add, hb2.cell]
        simp [bys, hj]
      · exact (hN1.mod.fresh hm2 fun x e => by omega).fresh (freeze_tch hb2) fun x e => by omega
  refine callK_ret hc ?_
  rintro v w1 ⟨rfl, hm⟩
  exact ⟨_, rfl, rfl, hm⟩
end
noncomputable def cloneQ (f : FuncId) (xs : List XV) : Option XV := X.br (Nat.beq f 256) (match xs with
  | [.str l] => X.br (Nat.ble (len l) 1000) (some (.str l)) none
  | _ => none) none
theorem cloneQ_ok {f : FuncId} {xs : List XV} {y : XV} (hr : cloneQ f xs = some y) (h : Hp) : QuietOk Tryz.prog GS f xs h y := by
  unfold cloneQ at hr
  obtain ⟨h1, hr1⟩ := br_some hr
  clear hr
  have := Nat.eq_of_beq_eq_true h1
  subst this
  split at hr1
  · next l =>
    obtain ⟨h2, hr2⟩ := br_some hr1
    cases hr2
    have h2 := Nat.le_of_ble_eq_true h2
    rw [len_eq] at h2
    intro S0 w0 ρ w vs hG hi hx
    simp only [XRs] at hx
    obtain ⟨v, vs', rfl, h4, rfl⟩ := hx
    simp only [XR] at h4
    obtain ⟨h5, rfl⟩ := h4
    refine Calls.mono (c_sclone (s := l.map UInt8.ofNat) (by simp; omega)) fun e w' he => ?_
    cases e <;> first | exact he.elim | skip
    obtain ⟨rfl, hm⟩ := he
    exact ⟨_, rfl, by simp only [XR]; exact ⟨h5, rfl⟩, hi.no hm⟩
  · cases hr1
noncomputable def cloneX (f : FuncId) (xs : List XV) (h : Hp) : Option (XV × Hp) := br (Nat.beq f 134) (match xs with
  | [.ifc t (.map (some L))] => onO (mapAt h L) fun q => some (.ifc t (.map (some h.n)), ⟨h.t.set (some (.map q.1 q.2)) h.n, Nat.succ h.n⟩)
  | _ => none) none
theorem run_clone (es : Array MapEntry) (c r : Nat) (t : TypeId) (w : World) (hb : w.heap[r]? = some (.map es c)) : (callFunc (134 : Nat) #[.iface t (.map (some r))]).run Tryz.prog w = .ok (.value (.iface t (.map (some w.heap.size)))) (w.alloc (.map es c)) := by
  rw [run_callFunc_extern Tryz.func134 (by kernel_rfl) (by kernel_rfl) (by kernel_rfl) (e := Extern.MapsClone.clone) (by kernel_rfl)]
  have e : Extern.MapsClone.clone #[.iface t (.map (some r))] = (getObj r >>= fun o => match o with
      | .map entries clock => (newObj (.map entries clock) >>= fun n => pure (.iface t (.map (some n))))
      | _ => stuck "maps.clone: a map expected") := rfl
  have g1 : (getObj r).run Tryz.prog w = .ok (.map es c) w := by simp [getObj, Sem.run, hb]
  rw [e]
  simp only [Sem.run_bind, g1, Result.andThen_ok, run_newObj_alloc, Sem.run_pure]
theorem cloneX_ok {f : FuncId} {xs : List XV} {h h' : Hp} {y : XV} (hr : cloneX f xs h = some (y, h')) : ExtHOk Tryz.prog f xs h y h' := by
  intro S0 w0 ρ w vs hi hxs
  unfold cloneX at hr
  have hq := br_some hr
  clear hr
  obtain ⟨h1, hr⟩ := hq
  have h1 := Nat.eq_of_beq_eq_true h1
  subst h1
  split at hr
  · next t L =>
    obtain ⟨⟨es, c⟩, h2, hr⟩ := onO_some hr
    cases hr
    obtain ⟨b, s, ms, q1, q2, q3, q4⟩ := hi.map h2
    simp only [XRs, XR] at hxs
    obtain ⟨v, vs', rfl, ⟨u, ⟨b', s', e1, rfl⟩, rfl⟩, rfl⟩ := hxs
    rw [q2] at e1; cases e1
    obtain ⟨g1, g2⟩ := hi.new (o := .map es c) (b := w.heap.size) (s := 0) rfl (alloc_mod w (.map ms.toArray c)) ⟨ms, ERs.le (le_new hi _ _) _ _ q3, heap_alloc_new w _⟩
    have hrun := run_clone ms.toArray c b t w q4
    refine ⟨.iface t (.map (some w.heap.size)), w.alloc (.map ms.toArray c), _, ?_, Lab.up_new g2, ?_, g1⟩
    · exact hrun
    · simp only [XR]
      exact ⟨_, ⟨w.heap.size, 0, by rw [if_pos trivial], rfl⟩, rfl⟩
  · cases hr
noncomputable def qA (f : FuncId) (xs : List XV) (h : Hp) : Option XV := match cloneQ f xs with
  | some r => some r
  | none => shQ shTab f xs
theorem qA_ok {f : FuncId} {xs : List XV} {h : Hp} {y : XV} (hr : qA f xs h = some y) : QuietOk Tryz.prog GS f xs h y := by
  unfold qA at hr
  split at hr
  · next r h1 => cases hr; exact cloneQ_ok h1 h
  · exact shQ_ok shTab_ok hr h
noncomputable def nA : CallsX := ⟨orC (tabC 23 key1 pubTab) (orC (tabC 95 key2 sigTab) (orC (tabC 135 keyR digTab) (entsC [verE pk0 sg1 ta1_0 55925]))), cmpE, globE, qA, fun _ _ _ => none, cloneX⟩
theorem nA_ok : CallsOk Tryz.prog GS nA := ⟨orC_ok (pubC_ok pubTab_ok) (orC_ok (sigC_ok sigTab_ok) (orC_ok (digC_ok digTab_ok) fun f xs h y h' => entsC_ok fun e he => by
  simp only [List.mem_cons, List.mem_nil_iff, or_false] at he
  subst he
  exact ver_ok ver1)), fun _ _ _ h => cmpE_ok h, fun _ _ _ h => globE_ok GS_GE h, fun _ _ _ _ hr => qA_ok hr, fun _ _ _ _ _ h => (by cases h), fun _ _ _ _ _ h => cloneX_ok h⟩
noncomputable abbrev runA (f : FuncId) (xs : List XV) (h : Hp) : Option (XV × Hp) := (xcalls Tryz.prog dF nA 1000 60).c f xs h
end Go.Proofs.YtagjijbaghnmfaaGreatDoor
end
section
namespace Go.Proofs.YtagjijbaghnmfaaGreatDoor
open Go Go.Sh
def sh32 (v : Option Addr) (w : World) (R : Ending → World → Prop) : Prop :=
  pureSem Tryz.prog (do eqGuard .neq 28 (.tmp 3) (.const (.pointer none)) (.pointer v) (.pointer none); binOp .neq 28 (.pointer v) (.pointer none)) fun v1 => ∃ x : Bool, v1 = (.bool x) ∧ condK x (onSome v fun a => ∃ x1 : Int, Rd w (a.add 7) [.int .i64 x1] ∧ R (.returned (.bool (decide (x1 > (0 : Int))))) w) (R (.returned (.bool false)) w)
theorem call32 (v : Option Addr) {w : World} {R : Ending → World → Prop} (hden : sh32 v w R) : Calls Tryz.prog 32 #[.pointer v] w R :=
  calls_of_form (.seq none .z (.seq none .z .z)) Tryz.func32 (by kernel_rfl) [.p v] (by kernel_rfl) (by kernel_rfl) hden
def sh9 (v : Option Addr) (records : Slc) (w : World) (R : Ending → World → Prop) : Prop :=
  callK Tryz.prog 32 [.pointer v] w (panR R) fun v1 w1 => ∃ x : Bool, v1 = (.bool x) ∧ condK (!x) (R (.returned (.int .i64 (1 : Int))) w1) (onSome v fun a => ∃ x1 : Option Addr, Rd w1 ((a.add 0).add 0) [.pointer x1] ∧ callK Tryz.prog 41 [.pointer x1] w1 (panR R) fun v2 w2 => ∃ x2 : Option Addr, v2 = (.pointer x2) ∧ ∃ (inv : List TV → World → Prop) (mu : List TV → World → Nat), inv [.sl ⟨none, 0, 0⟩, .i .i64 (0 : Int)] w2 ∧ (∀ entries : Slc, ∀ x3 : Int, ∀ w3 : World, inv [.sl entries, .i .i64 x3] w3 → condK (decide (x3 < (records.len : Int))) (((0 ≤ x3 ∧ x3 < (records.len : Nat)) ∧ onSome records.a fun a1 => ∃ xa : List UInt8, ∃ xb xc : Int, ∃ xd : Slc, ∃ xe : Bool, ∃ xf xg : Slc, Rd w3 (a1.add (x3.toNat * 7)) [.string ⟨xa.toArray⟩, .int .i64 xb, .int .i64 xc, .slice xd.a xd.len xd.cap, .bool xe, .slice xf.a xf.len xf.cap, .slice xg.a xg.len xg.cap] ∧ semK Tryz.prog (Instr.alloc 25 true (.tuple #[])) w3 fun v3 w4 => ∃ r : Option Addr, v3 = (.pointer r) ∧ onSome r fun a2 => semU Tryz.prog (storeVar 25 a2 (.agg #[.string ⟨xa.toArray⟩, .int .i64 xb, .int .i64 xc, .slice xd.a xd.len xd.cap, .bool xe, .slice xf.a xf.len xf.cap, .slice xg.a xg.len xg.cap])) w4 fun w5 => onSome r fun a3 => ∃ xa1 : List UInt8, ∃ xb1 xc1 : Int, ∃ xd1 : Slc, ∃ xe1 : Bool, ∃ xf1 xg1 : Slc, Rd w5 a3 [.string ⟨xa1.toArray⟩, .int .i64 xb1, .int .i64 xc1, .slice xd1.a xd1.len xd1.cap, .bool xe1, .slice xf1.a xf1.len xf1.cap, .slice xg1.a xg1.len xg1.cap] ∧ callK Tryz.prog 42 [.pointer x2, .agg #[.string ⟨xa1.toArray⟩, .int .i64 xb1, .int .i64 xc1, .slice xd1.a xd1.len xd1.cap, .bool xe1, .slice xf1.a xf1.len xf1.cap, .slice xg1.a xg1.len xg1.cap]] w5 (panR R) fun v4 w6 => ∃ xa2 : Bool, ∃ xb2 : Int, v4 = (.tuple #[.bool xa2, .int .i64 xb2]) ∧ condK (xb2 != (0 : Int)) (R (.returned (.int .i64 xb2)) w6) (onSome r fun a4 => ∃ xa3 : List UInt8, ∃ xb3 xc2 : Int, ∃ xd2 : Slc, ∃ xe2 : Bool, ∃ xf2 xg2 : Slc, Rd w6 a4 [.string ⟨xa3.toArray⟩, .int .i64 xb3, .int .i64 xc2, .slice xd2.a xd2.len xd2.cap, .bool xe2, .slice xf2.a xf2.len xf2.cap, .slice xg2.a xg2.len xg2.cap] ∧ callK Tryz.prog 43 [.agg #[.string ⟨xa3.toArray⟩, .int .i64 xb3, .int .i64 xc2, .slice xd2.a xd2.len xd2.cap, .bool xe2, .slice xf2.a xf2.len xf2.cap, .slice xg2.a xg2.len xg2.cap]] w6 (panR R) fun v5 w7 => ∃ xa4 : Slc, ∃ xb4 : Int, v5 = (.tuple #[.slice xa4.a xa4.len xa4.cap, .int .i64 xb4]) ∧ condK xa2 (semK Tryz.prog (Instr.buildSlice 82 1 #[(0, (.agg #[.int .u8 ((1 : UInt8)).toNat, .slice xa4.a xa4.len xa4.cap]))]) w7 fun v6 w8 => ∃ x4 : Slc, v6 = (.slice x4.a x4.len x4.cap) ∧ semK Tryz.prog (Builtin.append_ #[82, 82] 82 #[.slice entries.a entries.len entries.cap, .slice x4.a x4.len x4.cap]) w8 fun v7 w9 => ∃ x5 : Slc, v7 = (.slice x5.a x5.len x5.cap) ∧ (inv [.sl x5, .i .i64 (IntKind.i64.wrap (x3 + (1 : Int)))] w9 ∧ mu [.sl x5, .i .i64 (IntKind.i64.wrap (x3 + (1 : Int)))] w9 < mu [.sl entries, .i .i64 x3] w3)) ((inv [.sl entries, .i .i64 (IntKind.i64.wrap (x3 + (1 : Int)))] w7 ∧ mu [.sl entries, .i .i64 (IntKind.i64.wrap (x3 + (1 : Int)))] w7 < mu [.sl entries, .i .i64 x3] w3))))) (onSome v fun a5 => callK Tryz.prog 39 [.pointer (some (a5.add 4)), .slice entries.a entries.len entries.cap] w3 (panR R) fun v8 w10 => ∃ x6 : Int, v8 = (.int .i64 x6) ∧ condK (x6 == (0 : Int)) (onSome v fun a6 => semU Tryz.prog (storeVar 40 ((a6.add 0).add 0) (.pointer x2)) w10 fun w11 => R (.returned (.int .i64 x6)) w11) (R (.returned (.int .i64 x6)) w10))))
theorem call9 (v : Option Addr) (records : Slc) {w : World} {R : Ending → World → Prop} (hden : sh9 v records w R) : Calls Tryz.prog 9 #[.pointer v, .slice records.a records.len records.cap] w R :=
  calls_of_form (.seq none .z (.seq none (.seq none .z (.cond (.seq none .z .z) .z)) (.seq none .z (.seq none .z (.seq none (.seq none .z (.block none (.loop [(6, .sl), (25, (.i .i64))] (.seq none .z (.seq none (.cond .z .z) (.seq none (.block none (.seq none .z (.seq none .z (.seq none (.seq none .z (.cond (.seq none .z .z) .z)) (.seq none .z (.seq none .z (.cond .z .z))))))) .z)))))) (.seq none .z (.seq none (.seq none .z (.cond .z .z)) (.seq none .z .z)))))))) Tryz.func9 (by kernel_rfl) [.p v, .sl records] (by kernel_rfl) (by kernel_rfl) hden
def sh10 (v : Option Addr) (key : List UInt8) (w : World) (R : Ending → World → Prop) : Prop :=
  callK Tryz.prog 32 [.pointer v] w (panR R) fun v1 w1 => ∃ x : Bool, v1 = (.bool x) ∧ condK (!x) (R (.returned (.slice none 0 0)) w1) (onSome v fun a => ∃ x1 : Option Addr, Rd w1 ((a.add 0).add 0) [.pointer x1] ∧ callK Tryz.prog 44 [.pointer x1, .string ⟨key.toArray⟩] w1 (panR R) fun v2 w2 => ∃ x2 : Slc, v2 = (.slice x2.a x2.len x2.cap) ∧ R (.returned (.slice x2.a x2.len x2.cap)) w2)
theorem call10 (v : Option Addr) (key : List UInt8) {w : World} {R : Ending → World → Prop} (hden : sh10 v key w R) : Calls Tryz.prog 10 #[.pointer v, .string ⟨key.toArray⟩] w R :=
  calls_of_form (.seq none .z (.seq none (.seq none .z (.cond (.seq none .z .z) .z)) (.seq none .z .z))) Tryz.func10 (by kernel_rfl) [.p v, .s key] (by kernel_rfl) (by kernel_rfl) hden
def sh11 (v : Option Addr) (shard : Int) (w : World) (R : Ending → World → Prop) : Prop :=
  callK Tryz.prog 32 [.pointer v] w (panR R) fun v1 w1 => ∃ x : Bool, v1 = (.bool x) ∧ condK (!x) (R (.returned (.pointer none)) w1) (onSome v fun a => ∃ x1 : Option Addr, Rd w1 ((a.add 0).add 0) [.pointer x1] ∧ callK Tryz.prog 33 [.pointer x1, .int .i64 shard] w1 (panR R) fun v2 w2 => ∃ x2 : Option Addr, v2 = (.pointer x2) ∧ R (.returned (.pointer x2)) w2)
theorem call11 (v : Option Addr) (shard : Int) {w : World} {R : Ending → World → Prop} (hden : sh11 v shard w R) : Calls Tryz.prog 11 #[.pointer v, .int .i64 shard] w R :=
  calls_of_form (.seq none .z (.seq none (.seq none .z (.cond (.seq none .z .z) .z)) (.seq none .z .z))) Tryz.func11 (by kernel_rfl) [.p v, .i .i64 shard] (by kernel_rfl) (by kernel_rfl) hden
def sh8 (v : Option Addr) (shard : Int) (w : World) (R : Ending → World → Prop) : Prop :=
  semK Tryz.prog (Instr.alloc 53 true (.tuple #[])) w fun v1 w1 => ∃ x : Option Addr, v1 = (.pointer x) ∧ callK Tryz.prog 32 [.pointer v] w1 (panR R) fun v2 w2 => ∃ x1 : Bool, v2 = (.bool x1) ∧ condK (!x1) (onSome x fun a => semU Tryz.prog (storeVar 53 a (.agg #[.int .i64 (0 : Int), .int .i64 (0 : Int), .int .i64 (0 : Int), .slice none 0 0, .slice none 0 0])) w2 fun w3 => onSome x fun a1 => ∃ xa xb xc : Int, ∃ xd xe : Slc, Rd w3 a1 [.int .i64 xa, .int .i64 xb, .int .i64 xc, .slice xd.a xd.len xd.cap, .slice xe.a xe.len xe.cap] ∧ R (.returned (.tuple #[.agg #[.int .i64 xa, .int .i64 xb, .int .i64 xc, .slice xd.a xd.len xd.cap, .slice xe.a xe.len xe.cap], .int .i64 (1 : Int)])) w3) (onSome v fun a2 => ∃ x2 : Option Addr, Rd w2 ((a2.add 0).add 0) [.pointer x2] ∧ callK Tryz.prog 33 [.pointer x2, .int .i64 shard] w2 (panR R) fun v3 w4 => ∃ x3 : Option Addr, v3 = (.pointer x3) ∧ callK Tryz.prog 34 [.pointer x3] w4 (panR R) fun v4 w5 => ∃ x4 : Slc, v4 = (.slice x4.a x4.len x4.cap) ∧ onSome v fun a3 => ∃ x5 : Option Nat, Rd w5 ((a3.add 0).add 1) [.map x5] ∧ semK Tryz.prog (Instr.lookup 41 (.map x5) (.int .i64 shard) false) w5 fun v5 w6 => ∃ xa1 xb1 xc1 : Int, ∃ xd1 xe1 : Slc, v5 = (.agg #[.int .i64 xa1, .int .i64 xb1, .int .i64 xc1, .slice xd1.a xd1.len xd1.cap, .slice xe1.a xe1.len xe1.cap]) ∧ semK Tryz.prog (Instr.alloc 53 true (.tuple #[])) w6 fun v6 w7 => ∃ last : Option Addr, v6 = (.pointer last) ∧ onSome last fun a4 => semU Tryz.prog (storeVar 53 a4 (.agg #[.int .i64 xa1, .int .i64 xb1, .int .i64 xc1, .slice xd1.a xd1.len xd1.cap, .slice xe1.a xe1.len xe1.cap])) w7 fun w8 => pureSem Tryz.prog (do eqGuard .eql 23 (.tmp 33) (.const (.slice none 0 0)) (.slice x4.a x4.len x4.cap) (.slice none 0 0); binOp .eql 23 (.slice x4.a x4.len x4.cap) (.slice none 0 0)) fun v7 => ∃ x6 : Bool, v7 = (.bool x6) ∧ condK x6 (onSome x fun a5 => semU Tryz.prog (storeVar 53 a5 (.agg #[.int .i64 (0 : Int), .int .i64 (0 : Int), .int .i64 (0 : Int), .slice none 0 0, .slice none 0 0])) w8 fun w9 => onSome x fun a6 => ∃ xa2 xb2 xc2 : Int, ∃ xd2 xe2 : Slc, Rd w9 a6 [.int .i64 xa2, .int .i64 xb2, .int .i64 xc2, .slice xd2.a xd2.len xd2.cap, .slice xe2.a xe2.len xe2.cap] ∧ R (.returned (.tuple #[.agg #[.int .i64 xa2, .int .i64 xb2, .int .i64 xc2, .slice xd2.a xd2.len xd2.cap, .slice xe2.a xe2.len xe2.cap], .int .i64 (2 : Int)])) w9) (onSome last fun a7 => ∃ x7 : Slc, Rd w8 (a7.add 3) [.slice x7.a x7.len x7.cap] ∧ callK Tryz.prog 35 [.slice x7.a x7.len x7.cap, .slice x4.a x4.len x4.cap] w8 (panR R) fun v8 w10 => ∃ x8 : Bool, v8 = (.bool x8) ∧ condK x8 (onSome last fun a8 => ∃ xa3 xb3 xc3 : Int, ∃ xd3 xe3 : Slc, Rd w10 a8 [.int .i64 xa3, .int .i64 xb3, .int .i64 xc3, .slice xd3.a xd3.len xd3.cap, .slice xe3.a xe3.len xe3.cap] ∧ callK Tryz.prog 36 [.agg #[.int .i64 xa3, .int .i64 xb3, .int .i64 xc3, .slice xd3.a xd3.len xd3.cap, .slice xe3.a xe3.len xe3.cap]] w10 (panR R) fun v9 w11 => ∃ xa4 xb4 xc4 : Int, ∃ xd4 xe4 : Slc, v9 = (.agg #[.int .i64 xa4, .int .i64 xb4, .int .i64 xc4, .slice xd4.a xd4.len xd4.cap, .slice xe4.a xe4.len xe4.cap]) ∧ onSome x fun a9 => semU Tryz.prog (storeVar 53 a9 (.agg #[.int .i64 xa4, .int .i64 xb4, .int .i64 xc4, .slice xd4.a xd4.len xd4.cap, .slice xe4.a xe4.len xe4.cap])) w11 fun w12 => onSome x fun a10 => ∃ xa5 xb5 xc5 : Int, ∃ xd5 xe5 : Slc, Rd w12 a10 [.int .i64 xa5, .int .i64 xb5, .int .i64 xc5, .slice xd5.a xd5.len xd5.cap, .slice xe5.a xe5.len xe5.cap] ∧ R (.returned (.tuple #[.agg #[.int .i64 xa5, .int .i64 xb5, .int .i64 xc5, .slice xd5.a xd5.len xd5.cap, .slice xe5.a xe5.len xe5.cap], .int .i64 (0 : Int)])) w12) (onSome last fun a11 => ∃ x9 : Int, Rd w10 (a11.add 2) [.int .i64 x9] ∧ condK (decide (x9 ≥ (1073741824 : Int))) (onSome x fun a12 => semU Tryz.prog (storeVar 53 a12 (.agg #[.int .i64 (0 : Int), .int .i64 (0 : Int), .int .i64 (0 : Int), .slice none 0 0, .slice none 0 0])) w10 fun w13 => onSome x fun a13 => ∃ xa6 xb6 xc6 : Int, ∃ xd6 xe6 : Slc, Rd w13 a13 [.int .i64 xa6, .int .i64 xb6, .int .i64 xc6, .slice xd6.a xd6.len xd6.cap, .slice xe6.a xe6.len xe6.cap] ∧ R (.returned (.tuple #[.agg #[.int .i64 xa6, .int .i64 xb6, .int .i64 xc6, .slice xd6.a xd6.len xd6.cap, .slice xe6.a xe6.len xe6.cap], .int .i64 (8 : Int)])) w13) (∃ j : List TV → World → Prop, (∃ sx : World → Prop, sx w10.drew ∧ onSome v fun a14 => onSome v fun a15 => onSome last fun a16 => ∃ x10 : Slc, (∀ w', sx w' → Rd w' (a14.add 8) [.slice x10.a x10.len x10.cap]) ∧ ∃ x11 : Int, (∀ w', sx w' → Rd w' (a15.add 7) [.int .i64 x11]) ∧ ∃ x12 : Int, (∀ w', sx w' → Rd w' (a16.add 2) [.int .i64 x12]) ∧ ((callK Tryz.prog 37 [.slice x10.a x10.len x10.cap, .agg #[.int .i64 x11, .int .i64 shard, .int .i64 (IntKind.i64.wrap (x12 + (1 : Int))), .slice x4.a x4.len x4.cap, .slice none 0 0]] w10.drew (panR R) fun v10 w14 => ∃ xaa xab xac : Int, ∃ xad xae : Slc, ∃ xb7 : Int, v10 = (.tuple #[.agg #[.int .i64 xaa, .int .i64 xab, .int .i64 xac, .slice xad.a xad.len xad.cap, .slice xae.a xae.len xae.cap], .int .i64 xb7]) ∧ (sx w14 ∧ ((semK Tryz.prog (Instr.alloc 53 true (.tuple #[])) w14 fun v11 w15 => ∃ r : Option Addr, v11 = (.pointer r) ∧ (sx w15 ∧ ((onSome r fun a17 => semU Tryz.prog (storeVar 53 a17 (.agg #[.int .i64 xaa, .int .i64 xab, .int .i64 xac, .slice xad.a xad.len xad.cap, .slice xae.a xae.len xae.cap])) w15 fun w16 => j [.p r] w16) ∧ True))) ∧ True))) ∧ (semK Tryz.prog (Instr.alloc 53 true (.tuple #[])) w10.drew fun v12 w17 => ∃ r1 : Option Addr, v12 = (.pointer r1) ∧ (sx w17 ∧ ((callK Tryz.prog 37 [.slice x10.a x10.len x10.cap, .agg #[.int .i64 x11, .int .i64 shard, .int .i64 (IntKind.i64.wrap (x12 + (1 : Int))), .slice x4.a x4.len x4.cap, .slice none 0 0]] w17 (panR R) fun v13 w18 => ∃ xaa1 xab1 xac1 : Int, ∃ xad1 xae1 : Slc, ∃ xb8 : Int, v13 = (.tuple #[.agg #[.int .i64 xaa1, .int .i64 xab1, .int .i64 xac1, .slice xad1.a xad1.len xad1.cap, .slice xae1.a xae1.len xae1.cap], .int .i64 xb8]) ∧ (sx w18 ∧ ((onSome r1 fun a18 => semU Tryz.prog (storeVar 53 a18 (.agg #[.int .i64 xaa1, .int .i64 xab1, .int .i64 xac1, .slice xad1.a xad1.len xad1.cap, .slice xae1.a xae1.len xae1.cap])) w18 fun w19 => j [.p r1] w19) ∧ True))) ∧ True))) ∧ True)) ∧ (∀ r2 : Option Addr, ∀ w20 : World, j [.p r2] w20 → onSome r2 fun a19 => ∃ xa7 xb9 xc7 : Int, ∃ xd7 xe7 : Slc, Rd w20 a19 [.int .i64 xa7, .int .i64 xb9, .int .i64 xc7, .slice xd7.a xd7.len xd7.cap, .slice xe7.a xe7.len xe7.cap] ∧ callK Tryz.prog 38 [.agg #[.int .i64 xa7, .int .i64 xb9, .int .i64 xc7, .slice xd7.a xd7.len xd7.cap, .slice xe7.a xe7.len xe7.cap]] w20 (panR R) fun v14 w21 => ∃ xa8 : Slc, ∃ xb10 : Int, v14 = (.tuple #[.slice xa8.a xa8.len xa8.cap, .int .i64 xb10]) ∧ onSome v fun a20 => semK Tryz.prog (Instr.buildSlice 82 1 #[(0, (.agg #[.int .u8 ((2 : UInt8)).toNat, .slice xa8.a xa8.len xa8.cap]))]) w21 fun v15 w22 => ∃ x13 : Slc, v15 = (.slice x13.a x13.len x13.cap) ∧ callK Tryz.prog 39 [.pointer (some (a20.add 4)), .slice x13.a x13.len x13.cap] w22 (panR R) fun v16 w23 => ∃ x14 : Int, v16 = (.int .i64 x14) ∧ condK (x14 != (0 : Int)) (onSome x fun a21 => semU Tryz.prog (storeVar 53 a21 (.agg #[.int .i64 (0 : Int), .int .i64 (0 : Int), .int .i64 (0 : Int), .slice none 0 0, .slice none 0 0])) w23 fun w24 => onSome x fun a22 => ∃ xa9 xb11 xc8 : Int, ∃ xd8 xe8 : Slc, Rd w24 a22 [.int .i64 xa9, .int .i64 xb11, .int .i64 xc8, .slice xd8.a xd8.len xd8.cap, .slice xe8.a xe8.len xe8.cap] ∧ R (.returned (.tuple #[.agg #[.int .i64 xa9, .int .i64 xb11, .int .i64 xc8, .slice xd8.a xd8.len xd8.cap, .slice xe8.a xe8.len xe8.cap], .int .i64 x14])) w24) (∃ sx1 : World → Prop, sx1 w23.drew ∧ onSome v fun a23 => onSome r2 fun a24 => ∃ xa10 xb12 xc9 : Int, ∃ xd9 xe9 : Slc, (∀ w', sx1 w' → Rd w' a24 [.int .i64 xa10, .int .i64 xb12, .int .i64 xc9, .slice xd9.a xd9.len xd9.cap, .slice xe9.a xe9.len xe9.cap]) ∧ ((callK Tryz.prog 40 [.pointer (some (a23.add 0)), .agg #[.int .i64 xa10, .int .i64 xb12, .int .i64 xc9, .slice xd9.a xd9.len xd9.cap, .slice xe9.a xe9.len xe9.cap]] w23.drew (panR R) fun v17 w25 => v17 = (.tuple #[]) ∧ onSome r2 fun a25 => ∃ xa11 xb13 xc10 : Int, ∃ xd10 xe10 : Slc, Rd w25 a25 [.int .i64 xa11, .int .i64 xb13, .int .i64 xc10, .slice xd10.a xd10.len xd10.cap, .slice xe10.a xe10.len xe10.cap] ∧ onSome x fun a26 => semU Tryz.prog (storeVar 53 a26 (.agg #[.int .i64 xa11, .int .i64 xb13, .int .i64 xc10, .slice xd10.a xd10.len xd10.cap, .slice xe10.a xe10.len xe10.cap])) w25 fun w26 => onSome x fun a27 => ∃ xa12 xb14 xc11 : Int, ∃ xd11 xe11 : Slc, Rd w26 a27 [.int .i64 xa12, .int .i64 xb14, .int .i64 xc11, .slice xd11.a xd11.len xd11.cap, .slice xe11.a xe11.len xe11.cap] ∧ R (.returned (.tuple #[.agg #[.int .i64 xa12, .int .i64 xb14, .int .i64 xc11, .slice xd11.a xd11.len xd11.cap, .slice xe11.a xe11.len xe11.cap], .int .i64 (0 : Int)])) w26) ∧ True)))))))
theorem call8 (v : Option Addr) (shard : Int) {w : World} {R : Ending → World → Prop} (hden : sh8 v shard w R) : Calls Tryz.prog 8 #[.pointer v, .int .i64 shard] w R :=
  calls_of_form (.seq none .z (.seq none (.seq none .z (.cond (.seq none .z .z) .z)) (.seq none .z (.seq none .z (.seq none (.block none (.seq none .z (.cond (.seq none .z .z) (.seq none .z (.cond (.seq none .z .z) (.seq none .z (.cond (.seq none .z .z) .z))))))) (.seq (some [(8, .p)]) (.draw 1 (.take 0 (.take 1 (.take 2 (.take 4 (.take 5 (.take 6 (.take 8 (.take 9 (.take 12 (.take 3 (.take 7 (.take 10 (.take 11 (.take 13 (.all [(14, (.take 15 (.take 16 (.take 17 (.all [(18, (.all [(19, (.take 20 .done))]))]))))), (18, (.all [(14, (.take 15 (.take 16 (.take 17 (.all [(19, (.take 20 .done))])))))]))])))))))))))))))) (.seq none .z (.seq none (.seq none .z (.seq none .z (.cond (.seq none .z .z) .z))) (.seq none (.draw 1 (.take 0 (.take 1 (.take 2 (.take 3 (.all [(4, .done)])))))) (.seq none .z .z)))))))))) Tryz.func8 (by kernel_rfl) [.p v, .i .i64 shard] (by kernel_rfl) (by kernel_rfl) hden
def sh13 (v : Option Addr) (xaa xab xac : Int) (xad xae : Slc) (xba xbb xbc : Int) (xbd xbe : Slc) (w : World) (R : Ending → World → Prop) : Prop :=
  semK Tryz.prog (Instr.box 64 (.agg #[.int .i64 xaa, .int .i64 xab, .int .i64 xac, .slice xad.a xad.len xad.cap, .slice xae.a xae.len xae.cap, .int .i64 xba, .int .i64 xbb, .int .i64 xbc, .slice xbd.a xbd.len xbd.cap, .slice xbe.a xbe.len xbe.cap])) w fun v1 w1 => ∃ x : Option Addr, v1 = (.pointer x) ∧ callK Tryz.prog 32 [.pointer v] w1 (panR R) fun v2 w2 => ∃ x1 : Bool, v2 = (.bool x1) ∧ condK (!x1) (R (.returned (.int .i64 (1 : Int))) w2) (onSome x fun a => ∃ xaa1 xab1 xac1 : Int, ∃ xad1 xae1 : Slc, ∃ xba1 xbb1 xbc1 : Int, ∃ xbd1 xbe1 : Slc, Rd w2 a [.int .i64 xaa1, .int .i64 xab1, .int .i64 xac1, .slice xad1.a xad1.len xad1.cap, .slice xae1.a xae1.len xae1.cap, .int .i64 xba1, .int .i64 xbb1, .int .i64 xbc1, .slice xbd1.a xbd1.len xbd1.cap, .slice xbe1.a xbe1.len xbe1.cap] ∧ callK Tryz.prog 46 [.agg #[.int .i64 xaa1, .int .i64 xab1, .int .i64 xac1, .slice xad1.a xad1.len xad1.cap, .slice xae1.a xae1.len xae1.cap, .int .i64 xba1, .int .i64 xbb1, .int .i64 xbc1, .slice xbd1.a xbd1.len xbd1.cap, .slice xbe1.a xbe1.len xbe1.cap]] w2 (panR R) fun v3 w3 => ∃ xa : Slc, ∃ xb : Int, v3 = (.tuple #[.slice xa.a xa.len xa.cap, .int .i64 xb]) ∧ condK (xb != (0 : Int)) (R (.returned (.int .i64 xb)) w3) (onSome v fun a1 => callK Tryz.prog 47 [.pointer (some (a1.add 0)), .slice xa.a xa.len xa.cap] w3 (panR R) fun v4 w4 => ∃ x2 : Bool, v4 = (.bool x2) ∧ condK x2 (R (.returned (.int .i64 (0 : Int))) w4) (onSome v fun a2 => ∃ x3 : Slc, Rd w4 ((a2.add 0).add 2) [.slice x3.a x3.len x3.cap] ∧ condK (decide ((x3.len : Int) ≥ (32 : Int))) (R (.returned (.int .i64 (8 : Int))) w4) (onSome v fun a3 => semK Tryz.prog (Instr.buildSlice 82 1 #[(0, (.agg #[.int .u8 ((3 : UInt8)).toNat, .slice xa.a xa.len xa.cap]))]) w4 fun v5 w5 => ∃ x4 : Slc, v5 = (.slice x4.a x4.len x4.cap) ∧ callK Tryz.prog 39 [.pointer (some (a3.add 4)), .slice x4.a x4.len x4.cap] w5 (panR R) fun v6 w6 => ∃ x5 : Int, v6 = (.int .i64 x5) ∧ condK (x5 == (0 : Int)) (∃ sx : World → Prop, sx w6.drew ∧ onSome v fun a4 => onSome x fun a5 => ∃ xaa2 xab2 xac2 : Int, ∃ xad2 xae2 : Slc, ∃ xba2 xbb2 xbc2 : Int, ∃ xbd2 xbe2 : Slc, (∀ w', sx w' → Rd w' a5 [.int .i64 xaa2, .int .i64 xab2, .int .i64 xac2, .slice xad2.a xad2.len xad2.cap, .slice xae2.a xae2.len xae2.cap, .int .i64 xba2, .int .i64 xbb2, .int .i64 xbc2, .slice xbd2.a xbd2.len xbd2.cap, .slice xbe2.a xbe2.len xbe2.cap]) ∧ ((callK Tryz.prog 48 [.pointer (some (a4.add 0)), .agg #[.int .i64 xaa2, .int .i64 xab2, .int .i64 xac2, .slice xad2.a xad2.len xad2.cap, .slice xae2.a xae2.len xae2.cap, .int .i64 xba2, .int .i64 xbb2, .int .i64 xbc2, .slice xbd2.a xbd2.len xbd2.cap, .slice xbe2.a xbe2.len xbe2.cap]] w6.drew (panR R) fun v7 w7 => v7 = (.tuple #[]) ∧ R (.returned (.int .i64 x5)) w7) ∧ True)) (R (.returned (.int .i64 x5)) w6)))))
theorem call13 (v : Option Addr) (xaa xab xac : Int) (xad xae : Slc) (xba xbb xbc : Int) (xbd xbe : Slc) {w : World} {R : Ending → World → Prop} (hden : sh13 v xaa xab xac xad xae xba xbb xbc xbd xbe w R) : Calls Tryz.prog 13 #[.pointer v, .agg #[.int .i64 xaa, .int .i64 xab, .int .i64 xac, .slice xad.a xad.len xad.cap, .slice xae.a xae.len xae.cap, .int .i64 xba, .int .i64 xbb, .int .i64 xbc, .slice xbd.a xbd.len xbd.cap, .slice xbe.a xbe.len xbe.cap]] w R :=
  calls_of_form (.seq none .z (.seq none (.seq none .z (.cond (.seq none .z .z) .z)) (.seq none .z (.seq none (.block none (.seq none .z (.cond (.seq none .z .z) (.seq none .z (.cond (.seq none .z .z) (.seq none .z (.cond (.seq none .z .z) .z))))))) (.seq none (.seq none .z (.seq none .z (.cond (.draw 1 (.take 0 (.take 1 (.take 2 (.take 3 (.all [(4, .done)])))))) .z))) (.seq none .z .z)))))) Tryz.func13 (by kernel_rfl) [.p v, .agg [.agg [.i .i64 xaa, .i .i64 xab, .i .i64 xac, .sl xad, .sl xae], .agg [.i .i64 xba, .i .i64 xbb, .i .i64 xbc, .sl xbd, .sl xbe]]] (by kernel_rfl) (by kernel_rfl) hden
def sh14 (v : Option Addr) (replica : Int) (w : World) (R : Ending → World → Prop) : Prop :=
  callK Tryz.prog 32 [.pointer v] w (panR R) fun v1 w1 => ∃ x : Bool, v1 = (.bool x) ∧ condK (!x) (R (.returned (.int .i64 (1 : Int))) w1) (∃ j : List TV → World → Prop, (condK (decide (replica < (1 : Int))) (j [.b true] w1) (condK (decide (replica > (7 : Int))) (j [.b true] w1) (onSome v fun a => ∃ x1 : Int, Rd w1 (a.add 7) [.int .i64 x1] ∧ j [.b (replica == x1)] w1))) ∧ (∀ x2 : Bool, ∀ w2 : World, j [.b x2] w2 → condK x2 (R (.returned (.int .i64 (2 : Int))) w2) (onSome v fun a1 => ∃ x3 : Option Nat, Rd w2 ((a1.add 0).add 3) [.map x3] ∧ semK Tryz.prog (Instr.lookup 43 (.map x3) (.int .i64 replica) false) w2 fun v2 w3 => ∃ x4 : Bool, v2 = (.bool x4) ∧ condK x4 (R (.returned (.int .i64 (0 : Int))) w3) (onSome v fun a2 => ∃ x5 : Option Nat, Rd w3 ((a2.add 0).add 3) [.map x5] ∧ semU Tryz.prog (Instr.mapUpdate 43 (.map x5) (.int .i64 replica) (.bool true)) w3 fun w4 => onSome v fun a3 => semK Tryz.prog (Instr.buildSlice 23 1 #[(0, (.int .u8 ((u8OfInt replica)).toNat))]) w4 fun v3 w5 => ∃ x6 : Slc, v3 = (.slice x6.a x6.len x6.cap) ∧ semK Tryz.prog (Instr.buildSlice 82 1 #[(0, (.agg #[.int .u8 ((4 : UInt8)).toNat, .slice x6.a x6.len x6.cap]))]) w5 fun v4 w6 => ∃ x7 : Slc, v4 = (.slice x7.a x7.len x7.cap) ∧ callK Tryz.prog 39 [.pointer (some (a3.add 4)), .slice x7.a x7.len x7.cap] w6 (panR R) fun v5 w7 => ∃ x8 : Int, v5 = (.int .i64 x8) ∧ R (.returned (.int .i64 x8)) w7))))
theorem call14 (v : Option Addr) (replica : Int) {w : World} {R : Ending → World → Prop} (hden : sh14 v replica w R) : Calls Tryz.prog 14 #[.pointer v, .int .i64 replica] w R :=
  calls_of_form (.seq none .z (.seq none (.block none (.seq none .z (.cond (.seq none .z .z) (.seq (some [(9, .b)]) (.seq none .z (.cond .z (.seq none .z (.cond .z .z)))) (.cond (.seq none .z .z) (.seq none .z (.cond (.seq none .z .z) .z))))))) (.seq none .z (.seq none .z .z)))) Tryz.func14 (by kernel_rfl) [.p v, .i .i64 replica] (by kernel_rfl) (by kernel_rfl) hden
def sh15 (v : Option Addr) (replica : Int) (w : World) (R : Ending → World → Prop) : Prop :=
  callK Tryz.prog 32 [.pointer v] w (panR R) fun v1 w1 => ∃ x : Bool, v1 = (.bool x) ∧ condK x (onSome v fun a => ∃ x1 : Option Nat, Rd w1 ((a.add 0).add 3) [.map x1] ∧ semK Tryz.prog (Instr.lookup 43 (.map x1) (.int .i64 replica) false) w1 fun v2 w2 => ∃ x2 : Bool, v2 = (.bool x2) ∧ R (.returned (.bool x2)) w2) (R (.returned (.bool false)) w1)
theorem call15 (v : Option Addr) (replica : Int) {w : World} {R : Ending → World → Prop} (hden : sh15 v replica w R) : Calls Tryz.prog 15 #[.pointer v, .int .i64 replica] w R :=
  calls_of_form (.seq none .z (.seq none .z .z)) Tryz.func15 (by kernel_rfl) [.p v, .i .i64 replica] (by kernel_rfl) (by kernel_rfl) hden
def sh17 (v : Option Addr) (w : World) (R : Ending → World → Prop) : Prop :=
  semK Tryz.prog (Instr.alloc 72 true (.tuple #[])) w fun v1 w1 => ∃ x : Option Addr, v1 = (.pointer x) ∧ callK Tryz.prog 32 [.pointer v] w1 (panR R) fun v2 w2 => ∃ x1 : Bool, v2 = (.bool x1) ∧ condK (!x1) (onSome x fun a => semU Tryz.prog (storeVar 72 a (.agg #[.slice none 0 0, .slice none 0 0, .slice none 0 0, .slice none 0 0])) w2 fun w3 => onSome x fun a1 => ∃ xa xb xc xd : Slc, Rd w3 a1 [.slice xa.a xa.len xa.cap, .slice xb.a xb.len xb.cap, .slice xc.a xc.len xc.cap, .slice xd.a xd.len xd.cap] ∧ R (.returned (.agg #[.slice xa.a xa.len xa.cap, .slice xb.a xb.len xb.cap, .slice xc.a xc.len xc.cap, .slice xd.a xd.len xd.cap])) w3) (onSome v fun a2 => callK Tryz.prog 53 [.pointer (some (a2.add 0))] w2 (panR R) fun v3 w4 => ∃ xa1 xb1 xc1 xd1 : Slc, v3 = (.agg #[.slice xa1.a xa1.len xa1.cap, .slice xb1.a xb1.len xb1.cap, .slice xc1.a xc1.len xc1.cap, .slice xd1.a xd1.len xd1.cap]) ∧ onSome x fun a3 => semU Tryz.prog (storeVar 72 a3 (.agg #[.slice xa1.a xa1.len xa1.cap, .slice xb1.a xb1.len xb1.cap, .slice xc1.a xc1.len xc1.cap, .slice xd1.a xd1.len xd1.cap])) w4 fun w5 => onSome x fun a4 => ∃ xa2 xb2 xc2 xd2 : Slc, Rd w5 a4 [.slice xa2.a xa2.len xa2.cap, .slice xb2.a xb2.len xb2.cap, .slice xc2.a xc2.len xc2.cap, .slice xd2.a xd2.len xd2.cap] ∧ R (.returned (.agg #[.slice xa2.a xa2.len xa2.cap, .slice xb2.a xb2.len xb2.cap, .slice xc2.a xc2.len xc2.cap, .slice xd2.a xd2.len xd2.cap])) w5)
theorem call17 (v : Option Addr) {w : World} {R : Ending → World → Prop} (hden : sh17 v w R) : Calls Tryz.prog 17 #[.pointer v] w R :=
  calls_of_form (.seq none .z (.seq none (.seq none .z (.cond (.seq none .z .z) .z)) (.seq none .z .z))) Tryz.func17 (by kernel_rfl) [.p v] (by kernel_rfl) (by kernel_rfl) hden
def sh18 (v : Option Addr) (w : World) (R : Ending → World → Prop) : Prop :=
  callK Tryz.prog 32 [.pointer v] w (panR R) fun v1 w1 => ∃ x : Bool, v1 = (.bool x) ∧ condK (!x) (R (.returned (.int .i64 (1 : Int))) w1) (onSome v fun a => ∃ x1 : Int, Rd w1 ((a.add 4).add 2) [.int .i64 x1] ∧ condK (decide (x1 ≥ (1073741824 : Int))) (R (.returned (.int .i64 (8 : Int))) w1) (onSome v fun a1 => callK Tryz.prog 53 [.pointer (some (a1.add 0))] w1 (panR R) fun v2 w2 => ∃ xa xb xc xd : Slc, v2 = (.agg #[.slice xa.a xa.len xa.cap, .slice xb.a xb.len xb.cap, .slice xc.a xc.len xc.cap, .slice xd.a xd.len xd.cap]) ∧ callK Tryz.prog 54 [.agg #[.slice xa.a xa.len xa.cap, .slice xb.a xb.len xb.cap, .slice xc.a xc.len xc.cap, .slice xd.a xd.len xd.cap]] w2 (panR R) fun v3 w3 => ∃ xa1 : Slc, ∃ xb1 : Int, v3 = (.tuple #[.slice xa1.a xa1.len xa1.cap, .int .i64 xb1]) ∧ condK (xb1 != (0 : Int)) (R (.returned (.int .i64 xb1)) w3) (onSome v fun a2 => ∃ x2 : Option Addr, Rd w3 ((a2.add 4).add 0) [.pointer x2] ∧ callK Tryz.prog 55 [.pointer x2, .string ⟨([105, 109, 97, 103, 101, 46, 110, 101, 119]).toArray⟩] w3 (panR R) fun v4 w4 => ∃ x3 : Int, v4 = (.int .i64 x3) ∧ ∃ sx : World → Prop, sx w4.drew ∧ onSome v fun a3 => onSome v fun a4 => ∃ x4 : Option Addr, (∀ w', sx w' → Rd w' ((a3.add 4).add 0) [.pointer x4]) ∧ ∃ x5 : Int, (∀ w', sx w' → Rd w' ((a4.add 4).add 2) [.int .i64 x5]) ∧ ((callK Tryz.prog 58 [.int .i64 (IntKind.i64.wrap (x5 + (1 : Int)))] w4.drew (panR R) fun v5 w5 => ∃ x6 : Slc, v5 = (.slice x6.a x6.len x6.cap) ∧ (sx w5 ∧ ((semK Tryz.prog (Instr.buildSlice 181 2 #[(0, (.slice x6.a x6.len x6.cap)), (1, (.slice xa1.a xa1.len xa1.cap))]) w5 fun v6 w6 => ∃ x7 : Slc, v6 = (.slice x7.a x7.len x7.cap) ∧ (sx w6 ∧ ((callK Tryz.prog 57 [.slice x7.a x7.len x7.cap] w6 (panR R) fun v7 w7 => ∃ x8 : Slc, v7 = (.slice x8.a x8.len x8.cap) ∧ (sx w7 ∧ ((callK Tryz.prog 56 [.pointer x4, .string ⟨([105, 109, 97, 103, 101, 46, 110, 101, 119]).toArray⟩, .slice x8.a x8.len x8.cap] w7 (panR R) fun v8 w8 => ∃ x9 : Int, v8 = (.int .i64 x9) ∧ (sx w8 ∧ condK (x9 != (0 : Int)) (onSome v fun a5 => ∃ x10 : Option Addr, Rd w8 ((a5.add 4).add 0) [.pointer x10] ∧ callK Tryz.prog 55 [.pointer x10, .string ⟨([105, 109, 97, 103, 101, 46, 110, 101, 119]).toArray⟩] w8 (panR R) fun v9 w9 => ∃ x11 : Int, v9 = (.int .i64 x11) ∧ R (.returned (.int .i64 x9)) w9) (onSome v fun a6 => ∃ x12 : Option Addr, Rd w8 ((a6.add 4).add 0) [.pointer x12] ∧ callK Tryz.prog 59 [.pointer x12, .string ⟨([105, 109, 97, 103, 101, 46, 110, 101, 119]).toArray⟩] w8 (panR R) fun v10 w10 => ∃ x13 : Int, v10 = (.int .i64 x13) ∧ onSome v fun a7 => ∃ x14 : Option Addr, Rd w10 ((a7.add 4).add 0) [.pointer x14] ∧ callK Tryz.prog 60 [.pointer x14, .string ⟨([105, 109, 97, 103, 101, 46, 110, 101, 119]).toArray⟩, .string ⟨([105, 109, 97, 103, 101]).toArray⟩] w10 (panR R) fun v11 w11 => ∃ x15 : Int, v11 = (.int .i64 x15) ∧ onSome v fun a8 => callK Tryz.prog 61 [.pointer (some (a8.add 4))] w11 (panR R) fun v12 w12 => ∃ x16 : List UInt8, v12 = (.string ⟨x16.toArray⟩) ∧ onSome v fun a9 => ∃ x17 : Int, Rd w12 ((a9.add 4).add 2) [.int .i64 x17] ∧ onSome v fun a10 => semU Tryz.prog (storeVar 3 ((a10.add 4).add 2) (.int .i64 (IntKind.i64.wrap (x17 + (1 : Int))))) w12 fun w13 => onSome v fun a11 => callK Tryz.prog 27 [.pointer (some (a11.add 4))] w13 (panR R) fun v13 w14 => ∃ xa2 : Slc, ∃ xb2 : Int, v13 = (.tuple #[.slice xa2.a xa2.len xa2.cap, .int .i64 xb2]) ∧ onSome v fun a12 => ∃ x18 : Option Addr, Rd w14 ((a12.add 4).add 0) [.pointer x18] ∧ callK Tryz.prog 55 [.pointer x18, .string ⟨x16.toArray⟩] w14 (panR R) fun v14 w15 => ∃ x19 : Int, v14 = (.int .i64 x19) ∧ R (.returned (.int .i64 (0 : Int))) w15))) ∧ True))) ∧ True))) ∧ True))) ∧ True))))
theorem call18 (v : Option Addr) {w : World} {R : Ending → World → Prop} (hden : sh18 v w R) : Calls Tryz.prog 18 #[.pointer v] w R :=
  calls_of_form (.seq none .z (.seq none (.block none (.seq none .z (.cond (.seq none .z .z) (.seq none .z (.cond (.seq none .z .z) .z))))) (.seq none .z (.seq none (.seq none .z (.cond (.seq none .z .z) .z)) (.seq none .z (.seq none (.seq none (.draw 1 (.take 0 (.take 1 (.take 2 (.take 3 (.take 5 (.take 6 (.take 7 (.take 8 (.take 12 (.take 4 (.take 9 (.take 10 (.all [(11, (.all [(13, (.all [(14, (.all [(15, (.take 16 .done))]))]))]))])))))))))))))) (.seq none .z (.cond (.seq none .z (.seq none .z .z)) .z))) (.seq none .z (.seq none .z (.seq none .z (.seq none .z (.seq none .z (.seq none .z (.seq none .z .z))))))))))))) Tryz.func18 (by kernel_rfl) [.p v] (by kernel_rfl) (by kernel_rfl) hden
def sh22 (d : Option Addr) (w : World) (R : Ending → World → Prop) : Prop :=
  callK Tryz.prog 63 [.pointer d] w (panR R) fun v w1 => ∃ x : Bool, v = (.bool x) ∧ condK (!x) (R (.returned (.pointer none)) w1) (∃ sx : World → Prop, sx w1.drew ∧ onSome d fun a => onSome d fun a1 => onSome d fun a2 => ∃ x1 : Option Nat, (∀ w', sx w' → Rd w' ((a.add 0).add 0) [.map x1]) ∧ ∃ x2 : Option Nat, (∀ w', sx w' → Rd w' ((a1.add 0).add 1) [.map x2]) ∧ ∃ x3 : Int, (∀ w', sx w' → Rd w' (a2.add 2) [.int .i64 x3]) ∧ ((callK Tryz.prog 64 [.map x1] w1.drew (panR R) fun v1 w2 => ∃ x4 : Option Nat, v1 = (.map x4) ∧ (sx w2 ∧ ((callK Tryz.prog 64 [.map x2] w2 (panR R) fun v2 w3 => ∃ x5 : Option Nat, v2 = (.map x5) ∧ (sx w3 ∧ ((semK Tryz.prog (Instr.box 39 (.agg #[.map x4, .map x5, .int .i64 x3])) w3 fun v3 w4 => ∃ x6 : Option Addr, v3 = (.pointer x6) ∧ (sx w4 ∧ R (.returned (.pointer x6)) w4)) ∧ True))) ∧ True))) ∧ True))
theorem call22 (d : Option Addr) {w : World} {R : Ending → World → Prop} (hden : sh22 d w R) : Calls Tryz.prog 22 #[.pointer d] w R :=
  calls_of_form (.seq none .z (.seq none (.seq none .z (.cond (.seq none .z .z) .z)) (.seq none (.draw 1 (.take 0 (.take 1 (.take 2 (.take 3 (.take 6 (.take 7 (.take 8 (.take 9 (.take 13 (.take 14 (.take 15 (.take 4 (.take 10 (.take 16 (.all [(5, (.all [(11, (.take 12 (.take 17 (.all [(18, (.take 19 .done))]))))]))])))))))))))))))) .z))) Tryz.func22 (by kernel_rfl) [.p d] (by kernel_rfl) (by kernel_rfl) hden
def sh63 (d : Option Addr) (w : World) (R : Ending → World → Prop) : Prop :=
  pureSem Tryz.prog (do eqGuard .neq 33 (.tmp 3) (.const (.pointer none)) (.pointer d) (.pointer none); binOp .neq 33 (.pointer d) (.pointer none)) fun v => ∃ x : Bool, v = (.bool x) ∧ condK x (onSome d fun a => ∃ x1 : Option Nat, Rd w ((a.add 0).add 0) [.map x1] ∧ pureSem Tryz.prog (do eqGuard .neq 35 (.tmp 10) (.const (.map none)) (.map x1) (.map none); binOp .neq 35 (.map x1) (.map none)) fun v1 => ∃ x2 : Bool, v1 = (.bool x2) ∧ R (.returned (.bool x2)) w) (R (.returned (.bool false)) w)
theorem call63 (d : Option Addr) {w : World} {R : Ending → World → Prop} (hden : sh63 d w R) : Calls Tryz.prog 63 #[.pointer d] w R :=
  calls_of_form (.seq none .z (.seq none .z .z)) Tryz.func63 (by kernel_rfl) [.p d] (by kernel_rfl) (by kernel_rfl) hden
def sh6 (d : Option Addr) (id : Int) (seed : Slc) (w : World) (R : Ending → World → Prop) : Prop :=
  callK Tryz.prog 22 [.pointer d] w (panR R) fun v w1 => ∃ x : Option Addr, v = (.pointer x) ∧ pureSem Tryz.prog (do eqGuard .eql 33 (.tmp 13) (.const (.pointer none)) (.pointer x) (.pointer none); binOp .eql 33 (.pointer x) (.pointer none)) fun v1 => ∃ x1 : Bool, v1 = (.bool x1) ∧ condK x1 (R (.returned (.tuple #[.pointer none, .int .i64 (1 : Int)])) w1) (∃ j : List TV → World → Prop, (condK (decide (id < (1 : Int))) (j [.b true] w1) (condK (decide (id > (7 : Int))) (j [.b true] w1) (callK Tryz.prog 23 [.slice seed.a seed.len seed.cap] w1 (panR R) fun v2 w2 => ∃ x2 : Slc, v2 = (.slice x2.a x2.len x2.cap) ∧ pureSem Tryz.prog (do eqGuard .eql 23 (.tmp 21) (.const (.slice none 0 0)) (.slice x2.a x2.len x2.cap) (.slice none 0 0); binOp .eql 23 (.slice x2.a x2.len x2.cap) (.slice none 0 0)) fun v3 => ∃ x3 : Bool, v3 = (.bool x3) ∧ j [.b x3] w2))) ∧ (∀ x4 : Bool, ∀ w3 : World, j [.b x4] w3 → condK x4 (R (.returned (.tuple #[.pointer none, .int .i64 (2 : Int)])) w3) (callK Tryz.prog 24 [] w3 (panR R) fun v4 w4 => ∃ x5 : Option Addr, v4 = (.pointer x5) ∧ semK Tryz.prog (Instr.makeMap 41 none) w4 fun v5 w5 => ∃ x6 : Option Nat, v5 = (.map x6) ∧ semK Tryz.prog (Instr.makeMap 43 none) w5 fun v6 w6 => ∃ x7 : Option Nat, v6 = (.map x7) ∧ callK Tryz.prog 25 [.slice seed.a seed.len seed.cap] w6 (panR R) fun v7 w7 => ∃ x8 : Slc, v7 = (.slice x8.a x8.len x8.cap) ∧ semK Tryz.prog (Instr.box 50 (.agg #[.pointer x5, .map x6, .slice none 0 0, .map x7, .pointer d, .pointer none, .int .i64 (0 : Int), .int .i64 id, .slice x8.a x8.len x8.cap])) w7 fun v8 w8 => ∃ x9 : Option Addr, v8 = (.pointer x9) ∧ semK Tryz.prog (Instr.alloc 28 true (.tuple #[])) w8 fun v9 w9 => ∃ v10 : Option Addr, v9 = (.pointer v10) ∧ onSome v10 fun a => semU Tryz.prog (storeVar 28 a (.pointer x9)) w9 fun w10 => onSome v10 fun a1 => ∃ x10 : Option Addr, Rd w10 a1 [.pointer x10] ∧ callK Tryz.prog 26 [.pointer x10] w10 (panR R) fun v11 w11 => ∃ x11 : Bool, v11 = (.bool x11) ∧ condK (!x11) (R (.returned (.tuple #[.pointer none, .int .i64 (9 : Int)])) w11) (onSome v10 fun a2 => ∃ x12 : Option Addr, Rd w11 a2 [.pointer x12] ∧ onSome x12 fun a3 => callK Tryz.prog 27 [.pointer (some (a3.add 4))] w11 (panR R) fun v12 w12 => ∃ xa : Slc, ∃ xb : Int, v12 = (.tuple #[.slice xa.a xa.len xa.cap, .int .i64 xb]) ∧ condK (xb != (0 : Int)) (R (.returned (.tuple #[.pointer none, .int .i64 xb])) w12) (callK Tryz.prog 28 [.slice xa.a xa.len xa.cap, .func (.func 29) #[] #[.pointer v10]] w12 (panR R) fun v13 w13 => ∃ x13 : Bool, v13 = (.bool x13) ∧ condK x13 (R (.returned (.tuple #[.pointer none, .int .i64 (9 : Int)])) w13) (onSome v10 fun a4 => ∃ x14 : Option Addr, Rd w13 a4 [.pointer x14] ∧ onSome x14 fun a5 => callK Tryz.prog 31 [.pointer (some (a5.add 4))] w13 (panR R) fun v14 w14 => v14 = (.tuple #[]) ∧ onSome v10 fun a6 => ∃ x15 : Option Addr, Rd w14 a6 [.pointer x15] ∧ R (.returned (.tuple #[.pointer x15, .int .i64 (0 : Int)])) w14))))))
theorem call6 (d : Option Addr) (id : Int) (seed : Slc) {w : World} {R : Ending → World → Prop} (hden : sh6 d id seed w R) : Calls Tryz.prog 6 #[.pointer d, .int .i64 id, .slice seed.a seed.len seed.cap] w R :=
  calls_of_form (.seq none .z (.seq none (.block none (.seq none .z (.cond (.seq none .z .z) (.seq (some [(15, .b)]) (.seq none .z (.cond .z (.seq none .z (.cond .z .z)))) (.cond (.seq none .z .z) .z))))) (.seq none .z (.seq none (.seq none .z (.cond (.seq none .z .z) .z)) (.seq none .z (.seq none (.seq none .z (.cond (.seq none .z .z) .z)) (.seq none (.seq none .z (.cond (.seq none .z .z) .z)) (.seq none .z (.seq none .z .z))))))))) Tryz.func6 (by kernel_rfl) [.p d, .i .i64 id, .sl seed] (by kernel_rfl) (by kernel_rfl) hden
def sh5 (ra : List UInt8) (rb rc : Int) (rd : Slc) (re : Bool) (rf rg : Slc) (w : World) (R : Ending → World → Prop) : Prop :=
  semK Tryz.prog (Instr.box 25 (.agg #[.string ⟨ra.toArray⟩, .int .i64 rb, .int .i64 rc, .slice rd.a rd.len rd.cap, .bool re, .slice rf.a rf.len rf.cap, .slice rg.a rg.len rg.cap])) w fun v w1 => ∃ r : Option Addr, v = (.pointer r) ∧ onSome r fun a => ∃ x : List UInt8, Rd w1 (a.add 0) [.string ⟨x.toArray⟩] ∧ condK (decide ((x.length : Int) ≤ (200 : Int))) (onSome r fun a1 => ∃ x1 : Slc, Rd w1 (a1.add 5) [.slice x1.a x1.len x1.cap] ∧ condK (decide ((x1.len : Int) ≤ (2000 : Int))) (onSome r fun a2 => ∃ x2 : Slc, Rd w1 (a2.add 3) [.slice x2.a x2.len x2.cap] ∧ condK (decide ((x2.len : Int) ≤ (50 : Int))) (onSome r fun a3 => ∃ x3 : Slc, Rd w1 (a3.add 6) [.slice x3.a x3.len x3.cap] ∧ R (.returned (.bool (decide ((x3.len : Int) ≤ (200 : Int))))) w1) (R (.returned (.bool false)) w1)) (R (.returned (.bool false)) w1)) (R (.returned (.bool false)) w1)
theorem call5 (ra : List UInt8) (rb rc : Int) (rd : Slc) (re : Bool) (rf rg : Slc) {w : World} {R : Ending → World → Prop} (hden : sh5 ra rb rc rd re rf rg w R) : Calls Tryz.prog 5 #[.agg #[.string ⟨ra.toArray⟩, .int .i64 rb, .int .i64 rc, .slice rd.a rd.len rd.cap, .bool re, .slice rf.a rf.len rf.cap, .slice rg.a rg.len rg.cap]] w R :=
  calls_of_form (.seq none .z (.seq none .z .z)) Tryz.func5 (by kernel_rfl) [.agg [.s ra, .i .i64 rb, .i .i64 rc, .sl rd, .b re, .sl rf, .sl rg]] (by kernel_rfl) (by kernel_rfl) hden
def sh7 (n : Int) (w : World) (R : Ending → World → Prop) : Prop :=
  semK Tryz.prog (Instr.makeSlice 23 (.int .i64 (32 : Int)) (.int .i64 (32 : Int))) w fun v w1 => ∃ x : Slc, v = (.slice x.a x.len x.cap) ∧ ∃ (inv : List TV → World → Prop) (mu : List TV → World → Nat), inv [.i .i64 (0 : Int)] w1 ∧ (∀ i : Int, ∀ w2 : World, inv [.i .i64 i] w2 → condK (decide (i < (32 : Int))) (((0 ≤ i ∧ i < (x.len : Nat)) ∧ onSome x.a fun a => semU Tryz.prog (storeVar 5 (a.add (i.toNat * 1)) (.int .u8 ((u8OfInt (IntKind.i64.wrap ((IntKind.i64.wrap (n * (7 : Int))) + i)))).toNat)) w2 fun w3 => (inv [.i .i64 (IntKind.i64.wrap (i + (1 : Int)))] w3 ∧ mu [.i .i64 (IntKind.i64.wrap (i + (1 : Int)))] w3 < mu [.i .i64 i] w2))) (R (.returned (.slice x.a x.len x.cap)) w2))
theorem call7 (n : Int) {w : World} {R : Ending → World → Prop} (hden : sh7 n w R) : Calls Tryz.prog 7 #[.int .i64 n] w R :=
  calls_of_form (.seq none .z (.seq none .z (.seq none (.seq none .z (.block none (.loop [(4, (.i .i64))] (.seq none (.seq none .z (.cond .z .z)) (.seq none (.block none .z) .z))))) (.seq none .z .z)))) Tryz.func7 (by kernel_rfl) [.i .i64 n] (by kernel_rfl) (by kernel_rfl) hden
def sh3 (ra : List UInt8) (rb rc : Int) (rd : Slc) (re : Bool) (rf rg : Slc) (n id : Int) (w : World) (R : Ending → World → Prop) : Prop :=
  semK Tryz.prog (Instr.box 25 (.agg #[.string ⟨ra.toArray⟩, .int .i64 rb, .int .i64 rc, .slice rd.a rd.len rd.cap, .bool re, .slice rf.a rf.len rf.cap, .slice rg.a rg.len rg.cap])) w fun v w1 => ∃ r : Option Addr, v = (.pointer r) ∧ callK Tryz.prog 4 [] w1 (panR R) fun v1 w2 => ∃ x : Bool, v1 = (.bool x) ∧ condK (!x) (R (.returned (.bool false)) w2) (onSome r fun a => ∃ xa : List UInt8, ∃ xb xc : Int, ∃ xd : Slc, ∃ xe : Bool, ∃ xf xg : Slc, Rd w2 a [.string ⟨xa.toArray⟩, .int .i64 xb, .int .i64 xc, .slice xd.a xd.len xd.cap, .bool xe, .slice xf.a xf.len xf.cap, .slice xg.a xg.len xg.cap] ∧ callK Tryz.prog 5 [.agg #[.string ⟨xa.toArray⟩, .int .i64 xb, .int .i64 xc, .slice xd.a xd.len xd.cap, .bool xe, .slice xf.a xf.len xf.cap, .slice xg.a xg.len xg.cap]] w2 (panR R) fun v2 w3 => ∃ x1 : Bool, v2 = (.bool x1) ∧ condK (!x1) (R (.returned (.bool true)) w3) (callK Tryz.prog 7 [.int .i64 (1 : Int)] w3 (panR R) fun v3 w4 => ∃ x2 : Slc, v3 = (.slice x2.a x2.len x2.cap) ∧ callK Tryz.prog 6 [.pointer none, .int .i64 id, .slice x2.a x2.len x2.cap] w4 (panR R) fun v4 w5 => ∃ xa1 : Option Addr, ∃ xb1 : Int, v4 = (.tuple #[.pointer xa1, .int .i64 xb1]) ∧ semK Tryz.prog (Instr.box 39 (.agg #[.map none, .map none, .int .i64 (0 : Int)])) w5 fun v5 w6 => ∃ x3 : Option Addr, v5 = (.pointer x3) ∧ callK Tryz.prog 6 [.pointer x3, .int .i64 id, .slice none 0 0] w6 (panR R) fun v6 w7 => ∃ xa2 : Option Addr, ∃ xb2 : Int, v6 = (.tuple #[.pointer xa2, .int .i64 xb2]) ∧ ∃ j : List TV → World → Prop, (condK (xb1 != (1 : Int)) (j [.b true] w7) (j [.b (xb2 != (1 : Int))] w7)) ∧ (∀ x4 : Bool, ∀ w8 : World, j [.b x4] w8 → condK x4 (R (.returned (.bool false)) w8) (semK Tryz.prog (Instr.box 50 (.agg #[.pointer none, .map none, .slice none 0 0, .map none, .pointer none, .pointer none, .int .i64 (0 : Int), .int .i64 (0 : Int), .slice none 0 0])) w8 fun v7 w9 => ∃ x5 : Option Addr, v7 = (.pointer x5) ∧ semK Tryz.prog (Instr.buildSlice 51 2 #[(0, (.pointer none)), (1, (.pointer x5))]) w9 fun v8 w10 => ∃ x6 : Slc, v8 = (.slice x6.a x6.len x6.cap) ∧ ∃ (inv : List TV → World → Prop) (mu : List TV → World → Nat), inv [.i .i64 (0 : Int)] w10 ∧ (∀ i : Int, ∀ w11 : World, inv [.i .i64 i] w11 → condK (decide (i < (2 : Int))) (((0 ≤ i ∧ i < (x6.len : Nat)) ∧ onSome x6.a fun a1 => ∃ x7 : Option Addr, Rd w11 (a1.add (i.toNat * 1)) [.pointer x7] ∧ callK Tryz.prog 8 [.pointer x7, .int .i64 n] w11 (panR R) fun v9 w12 => ∃ xaa xab xac : Int, ∃ xad xae : Slc, ∃ xb3 : Int, v9 = (.tuple #[.agg #[.int .i64 xaa, .int .i64 xab, .int .i64 xac, .slice xad.a xad.len xad.cap, .slice xae.a xae.len xae.cap], .int .i64 xb3]) ∧ semK Tryz.prog (Instr.alloc 53 true (.tuple #[])) w12 fun v10 w13 => ∃ a2 : Option Addr, v10 = (.pointer a2) ∧ onSome a2 fun a3 => semU Tryz.prog (storeVar 53 a3 (.agg #[.int .i64 xaa, .int .i64 xab, .int .i64 xac, .slice xad.a xad.len xad.cap, .slice xae.a xae.len xae.cap])) w13 fun w14 => onSome r fun a4 => ∃ xa3 : List UInt8, ∃ xb4 xc1 : Int, ∃ xd1 : Slc, ∃ xe1 : Bool, ∃ xf1 xg1 : Slc, Rd w14 a4 [.string ⟨xa3.toArray⟩, .int .i64 xb4, .int .i64 xc1, .slice xd1.a xd1.len xd1.cap, .bool xe1, .slice xf1.a xf1.len xf1.cap, .slice xg1.a xg1.len xg1.cap] ∧ semK Tryz.prog (Instr.buildSlice 57 1 #[(0, (.agg #[.string ⟨xa3.toArray⟩, .int .i64 xb4, .int .i64 xc1, .slice xd1.a xd1.len xd1.cap, .bool xe1, .slice xf1.a xf1.len xf1.cap, .slice xg1.a xg1.len xg1.cap]))]) w14 fun v11 w15 => ∃ x8 : Slc, v11 = (.slice x8.a x8.len x8.cap) ∧ callK Tryz.prog 9 [.pointer x7, .slice x8.a x8.len x8.cap] w15 (panR R) fun v12 w16 => ∃ x9 : Int, v12 = (.int .i64 x9) ∧ condK (x9 != (1 : Int)) (R (.returned (.bool false)) w16) (onSome r fun a5 => ∃ x10 : List UInt8, Rd w16 (a5.add 0) [.string ⟨x10.toArray⟩] ∧ callK Tryz.prog 10 [.pointer x7, .string ⟨x10.toArray⟩] w16 (panR R) fun v13 w17 => ∃ x11 : Slc, v13 = (.slice x11.a x11.len x11.cap) ∧ condK ((x11.len : Int) != (0 : Int)) (R (.returned (.bool false)) w17) (callK Tryz.prog 11 [.pointer x7, .int .i64 n] w17 (panR R) fun v14 w18 => ∃ x12 : Option Addr, v14 = (.pointer x12) ∧ pureSem Tryz.prog (do eqGuard .neq 59 (.tmp 73) (.const (.pointer none)) (.pointer x12) (.pointer none); binOp .neq 59 (.pointer x12) (.pointer none)) fun v15 => ∃ x13 : Bool, v15 = (.bool x13) ∧ condK x13 (R (.returned (.bool false)) w18) (condK (xb3 != (1 : Int)) (R (.returned (.bool false)) w18) (onSome a2 fun a6 => ∃ xa4 xb5 xc2 : Int, ∃ xd2 xe2 : Slc, Rd w18 a6 [.int .i64 xa4, .int .i64 xb5, .int .i64 xc2, .slice xd2.a xd2.len xd2.cap, .slice xe2.a xe2.len xe2.cap] ∧ callK Tryz.prog 12 [.agg #[.int .i64 xa4, .int .i64 xb5, .int .i64 xc2, .slice xd2.a xd2.len xd2.cap, .slice xe2.a xe2.len xe2.cap], .agg #[.int .i64 (0 : Int), .int .i64 (0 : Int), .int .i64 (0 : Int), .slice none 0 0, .slice none 0 0]] w18 (panR R) fun v16 w19 => ∃ x14 : Bool, v16 = (.bool x14) ∧ condK (!x14) (R (.returned (.bool false)) w19) (callK Tryz.prog 13 [.pointer x7, .agg #[.int .i64 (0 : Int), .int .i64 (0 : Int), .int .i64 (0 : Int), .slice none 0 0, .slice none 0 0, .int .i64 (0 : Int), .int .i64 (0 : Int), .int .i64 (0 : Int), .slice none 0 0, .slice none 0 0]] w19 (panR R) fun v17 w20 => ∃ x15 : Int, v17 = (.int .i64 x15) ∧ condK (x15 != (1 : Int)) (R (.returned (.bool false)) w20) (callK Tryz.prog 14 [.pointer x7, .int .i64 n] w20 (panR R) fun v18 w21 => ∃ x16 : Int, v18 = (.int .i64 x16) ∧ condK (x16 != (1 : Int)) (R (.returned (.bool false)) w21) (callK Tryz.prog 15 [.pointer x7, .int .i64 n] w21 (panR R) fun v19 w22 => ∃ x17 : Bool, v19 = (.bool x17) ∧ condK x17 (R (.returned (.bool false)) w22) (callK Tryz.prog 17 [.pointer x7] w22 (panR R) fun v20 w23 => ∃ xa5 xb6 xc3 xd3 : Slc, v20 = (.agg #[.slice xa5.a xa5.len xa5.cap, .slice xb6.a xb6.len xb6.cap, .slice xc3.a xc3.len xc3.cap, .slice xd3.a xd3.len xd3.cap]) ∧ callK Tryz.prog 16 [.agg #[.slice xa5.a xa5.len xa5.cap, .slice xb6.a xb6.len xb6.cap, .slice xc3.a xc3.len xc3.cap, .slice xd3.a xd3.len xd3.cap], .agg #[.slice none 0 0, .slice none 0 0, .slice none 0 0, .slice none 0 0]] w23 (panR R) fun v21 w24 => ∃ x18 : Bool, v21 = (.bool x18) ∧ condK (!x18) (R (.returned (.bool false)) w24) (callK Tryz.prog 18 [.pointer x7] w24 (panR R) fun v22 w25 => ∃ x19 : Int, v22 = (.int .i64 x19) ∧ condK (x19 != (1 : Int)) (R (.returned (.bool false)) w25) ((inv [.i .i64 (IntKind.i64.wrap (i + (1 : Int)))] w25 ∧ mu [.i .i64 (IntKind.i64.wrap (i + (1 : Int)))] w25 < mu [.i .i64 i] w11))))))))))))) (R (.returned (.bool true)) w11))))))
theorem call3 (ra : List UInt8) (rb rc : Int) (rd : Slc) (re : Bool) (rf rg : Slc) (n id : Int) {w : World} {R : Ending → World → Prop} (hden : sh3 ra rb rc rd re rf rg n id w R) : Calls Tryz.prog 3 #[.agg #[.string ⟨ra.toArray⟩, .int .i64 rb, .int .i64 rc, .slice rd.a rd.len rd.cap, .bool re, .slice rf.a rf.len rf.cap, .slice rg.a rg.len rg.cap], .int .i64 n, .int .i64 id] w R :=
  calls_of_form (.seq none .z (.seq none (.seq none .z (.cond (.seq none .z .z) .z)) (.seq none (.seq none .z (.cond (.seq none .z .z) .z)) (.seq none .z (.seq none .z (.seq none (.seq (some [(39, .b)]) .z (.cond (.seq none .z .z) .z)) (.seq none .z (.seq none (.seq none .z (.block none (.loop [(12, (.i .i64))] (.seq none (.seq none .z (.cond .z .z)) (.seq none (.block none (.seq none .z (.seq none .z (.seq none .z (.cond (.seq none .z .z) .z))))) .z))))) (.seq none .z .z))))))))) Tryz.func3 (by kernel_rfl) [.agg [.s ra, .i .i64 rb, .i .i64 rc, .sl rd, .b re, .sl rf, .sl rg], .i .i64 n, .i .i64 id] (by kernel_rfl) (by kernel_rfl) hden
def rt0 : List Value := [.int .i64 0, .int .i64 0, .int .i64 0, .slice none 0 0, .slice none 0 0]
def hd0 : List Value := [.slice none 0 0, .slice none 0 0, .slice none 0 0, .slice none 0 0]
def va0 : List Value := [.pointer none, .map none, .slice none 0 0, .map none, .pointer none, .pointer none, .int .i64 0, .int .i64 0, .slice none 0 0]
def dk0 : List Value := [.map none, .map none, .int .i64 0]
def NoOf (z : List Value) (w : World) (c : Option Addr) : Prop := c = none ∨ ∃ b T, c = some ⟨b, 0, none⟩ ∧ Blk w b z T
theorem NoOf.no {z : List Value} {w w' : World} {c : Option Addr} (h : NoOf z w c) (hm : Mod NoB w w') : NoOf z w' c := by
  rcases h with h | ⟨b, T, h1, h2⟩
  · exact .inl h
  · exact .inr ⟨b, T, h1, h2.no hm⟩
theorem iRoot0 : ∃ i, Tryz.prog.info? 53 = some i ∧ i.zero = some (.agg rt0.toArray) ∧ i.size = 5 ∧ i.bytes = 72 := info_of (by kernel_rfl) (by kernel_rfl) (by kernel_rfl)
theorem iHeld0 : ∃ i, Tryz.prog.info? 72 = some i ∧ i.zero = some (.agg hd0.toArray) ∧ i.size = 4 ∧ i.bytes = 96 := info_of (by kernel_rfl) (by kernel_rfl) (by kernel_rfl)
theorem rt0_one : ∀ u ∈ rt0, u.oneCell' = true := by intro u hu; simp [rt0] at hu; rcases hu with rfl | rfl <;> rfl
theorem hd0_one : ∀ u ∈ hd0, u.oneCell' = true := by intro u hu; simp [hd0] at hu; subst hu; rfl
theorem uPV : Tryz.prog.underlying 28 = some (.pointer 50) := by kernel_rfl
theorem uPD : Tryz.prog.underlying 33 = some (.pointer 39) := by kernel_rfl
section
variable {w : World} {c : Option Addr}
theorem c_thereV (hc : NoOf va0 w c) : Calls Tryz.prog 32 #[.pointer c] w (Ret fun v w' => v = .bool false ∧ w' = w) := by
  refine call32 _ ?_
  unfold sh32
  refine ps_neq_ptr uPV ⟨_, rfl, condK_i (fun h => ?_) fun h => ⟨rfl, rfl⟩⟩
  rcases hc with rfl | ⟨b, T, rfl, hb⟩
  · simp at h
  · exact ⟨0, hb.rd1 (o := 7) rfl, rfl, rfl⟩
theorem c_PutN {s : Slc} (hc : NoOf va0 w c) : Calls Tryz.prog 9 #[.pointer c, .slice s.a s.len s.cap] w (Ret fun v w' => v = .int .i64 1 ∧ w' = w) := by
  refine call9 _ _ ?_
  unfold sh9
  refine callK_ret (c_thereV hc) ?_
  rintro v w1 ⟨rfl, rfl⟩
  exact ⟨_, rfl, condK_i (fun _ => ⟨rfl, rfl⟩) fun h => by cases h⟩
theorem c_GetN {k : List UInt8} (hc : NoOf va0 w c) : Calls Tryz.prog 10 #[.pointer c, .string ⟨k.toArray⟩] w (Ret fun v w' => v = .slice none 0 0 ∧ w' = w) := by
  refine call10 _ _ ?_
  unfold sh10
  refine callK_ret (c_thereV hc) ?_
  rintro v w1 ⟨rfl, rfl⟩
  exact ⟨_, rfl, condK_i (fun _ => ⟨rfl, rfl⟩) fun h => by cases h⟩
theorem c_TreeN {n : Int} (hc : NoOf va0 w c) : Calls Tryz.prog 11 #[.pointer c, .int .i64 n] w (Ret fun v w' => v = .pointer none ∧ w' = w) := by
  refine call11 _ _ ?_
  unfold sh11
  refine callK_ret (c_thereV hc) ?_
  rintro v w1 ⟨rfl, rfl⟩
  exact ⟨_, rfl, condK_i (fun _ => ⟨rfl, rfl⟩) fun h => by cases h⟩
theorem c_ShutN {n : Int} (hc : NoOf va0 w c) : Calls Tryz.prog 14 #[.pointer c, .int .i64 n] w (Ret fun v w' => v = .int .i64 1 ∧ w' = w) := by
  refine call14 _ _ ?_
  unfold sh14
  refine callK_ret (c_thereV hc) ?_
  rintro v w1 ⟨rfl, rfl⟩
  exact ⟨_, rfl, condK_i (fun _ => ⟨rfl, rfl⟩) fun h => by cases h⟩
theorem c_IsShutN {n : Int} (hc : NoOf va0 w c) : Calls Tryz.prog 15 #[.pointer c, .int .i64 n] w (Ret fun v w' => v = .bool false ∧ w' = w) := by
  refine call15 _ _ ?_
  unfold sh15
  refine callK_ret (c_thereV hc) ?_
  rintro v w1 ⟨rfl, rfl⟩
  exact ⟨_, rfl, condK_i (fun h => by cases h) fun _ => ⟨rfl, rfl⟩⟩
theorem c_PackN (hc : NoOf va0 w c) : Calls Tryz.prog 18 #[.pointer c] w (Ret fun v w' => v = .int .i64 1 ∧ w' = w) := by
  refine call18 _ ?_
  unfold sh18
  refine callK_ret (c_thereV hc) ?_
  rintro v w1 ⟨rfl, rfl⟩
  exact ⟨_, rfl, condK_i (fun _ => ⟨rfl, rfl⟩) fun h => by cases h⟩
theorem c_AccuseN (hc : NoOf va0 w c) : Calls Tryz.prog 13 #[.pointer c, .agg (rt0 ++ rt0).toArray] w (Ret fun v w' => v = .int .i64 1 ∧ Mod NoB w w') := by
  refine call13 c 0 0 0 ⟨none, 0, 0⟩ ⟨none, 0, 0⟩ 0 0 0 ⟨none, 0, 0⟩ ⟨none, 0, 0⟩ ?_
  unfold sh13
  refine sem_box (l := rt0 ++ rt0) rfl fun q w1 hN1 hb1 => ⟨_, rfl, ?_⟩
  refine callK_ret (c_thereV (hc.no hN1.mod)) ?_
  rintro v w2 ⟨rfl, rfl⟩
  exact ⟨_, rfl, condK_i (fun _ => ⟨rfl, hN1.mod⟩) fun h => by cases h⟩
theorem c_IssueN {n : Int} (hc : NoOf va0 w c) : Calls Tryz.prog 8 #[.pointer c, .int .i64 n] w (Ret fun v w' => v = .tuple #[.agg rt0.toArray, .int .i64 1] ∧ Mod NoB w w') := by
  obtain ⟨i, r1, r2, r3, r4⟩ := iRoot0
  refine call8 _ _ ?_
  unfold sh8
  refine sem_alloc (l := rt0) r1 r2 rfl fun p w1 hN1 hb1 => ⟨_, rfl, ?_⟩
  have e1 := hN1.at_
  refine callK_ret (c_thereV (hc.no hN1.mod)) ?_
  rintro v w2 ⟨rfl, rfl⟩
  refine ⟨_, rfl, condK_i (fun _ => ?_) fun h => by cases h⟩
  refine semU_store (o := 0) (vs := rt0) (by kernel_rfl) (by kernel_rfl) rfl hb1 (by simp [rt0]) rt0_one fun w4 ht4 hb4 => ?_
  have hb4 : Blk w4 p rt0 _ := hb4
  exact ⟨0, 0, 0, ⟨none, 0, 0⟩, ⟨none, 0, 0⟩, hb4.rd fun j v hj => by simpa [rt0] using hj, rfl, hN1.mod.fresh ht4.mod fun z e => by (have : z = p := e); omega⟩
theorem c_HeldN (hc : NoOf va0 w c) : Calls Tryz.prog 17 #[.pointer c] w (Ret fun v w' => v = .agg hd0.toArray ∧ Mod NoB w w') := by
  obtain ⟨i, r1, r2, r3, r4⟩ := iHeld0
  refine call17 _ ?_
  unfold sh17
  refine sem_alloc (l := hd0) r1 r2 rfl fun p w1 hN1 hb1 => ⟨_, rfl, ?_⟩
  have e1 := hN1.at_
  refine callK_ret (c_thereV (hc.no hN1.mod)) ?_
  rintro v w2 ⟨rfl, rfl⟩
  refine ⟨_, rfl, condK_i (fun _ => ?_) fun h => by cases h⟩
  refine semU_store (o := 0) (vs := hd0) (by kernel_rfl) (by kernel_rfl) rfl hb1 (by simp [hd0]) hd0_one fun w4 ht4 hb4 => ?_
  have hb4 : Blk w4 p hd0 _ := hb4
  exact ⟨⟨none, 0, 0⟩, ⟨none, 0, 0⟩, ⟨none, 0, 0⟩, ⟨none, 0, 0⟩, hb4.rd fun j v hj => by simpa [hd0] using hj, rfl, hN1.mod.fresh ht4.mod fun z e => by (have : z = p := e); omega⟩
theorem c_CopyN (hc : NoOf dk0 w c) : Calls Tryz.prog 22 #[.pointer c] w (Ret fun v w' => v = .pointer none ∧ w' = w) := by
  refine call22 _ ?_
  unfold sh22
  have hm : Calls Tryz.prog 63 #[.pointer c] w (Ret fun v w' => v = .bool false ∧ w' = w) := by
    refine call63 _ ?_
    unfold sh63
    refine ps_neq_ptr uPD ⟨_, rfl, condK_i (fun h => ?_) fun h => ⟨rfl, rfl⟩⟩
    rcases hc with rfl | ⟨b, T, rfl, hb⟩
    · simp at h
    · refine ⟨none, hb.rd1 (o := 0) rfl, ?_⟩
      exact ps_neq_map (k := 9) (e := 9) (by kernel_rfl) ⟨_, rfl, rfl, rfl⟩
  refine callK_ret hm ?_
  rintro v w1 ⟨rfl, rfl⟩
  exact ⟨_, rfl, condK_i (fun _ => ⟨rfl, rfl⟩) fun h => by cases h⟩
theorem c_OpenN {n : Int} {s : Slc} (hc : NoOf dk0 w c) : Calls Tryz.prog 6 #[.pointer c, .int .i64 n, .slice s.a s.len s.cap] w (Ret fun v w' => v = .tuple #[.pointer none, .int .i64 1] ∧ w' = w) := by
  refine call6 _ _ _ ?_
  unfold sh6
  refine callK_ret (c_CopyN hc) ?_
  rintro v w1 ⟨rfl, rfl⟩
  exact ⟨none, rfl, ps_eql_ptr uPD ⟨_, rfl, condK_i (fun _ => ⟨rfl, rfl⟩) fun h => by cases h⟩⟩
theorem c_seedN {n : Int} : Calls Tryz.prog 7 #[.int .i64 n] w (Ret fun v w' => ∃ x : Slc, v = .slice x.a x.len x.cap ∧ Mod NoB w w') := by
  refine call7 _ ?_
  unfold sh7
  obtain ⟨i5', h51, h52, h53, h54⟩ := i5
  refine sem_makeSlice (l := 32) (c := 32) u26 h51 h52 h53 rfl h54 rfl rfl (by omega) (by omega) (by omega) fun b w1 hN hb ho => ⟨⟨_, _, _⟩, rfl, ?_⟩
  have hat := hN.at_
  refine ⟨fun l' w' => match l' with | [.i _ x] => ∃ k : Nat, x = k ∧ k ≤ 32 ∧ (∃ l, Blk w' b l 5 ∧ l.length = 32) ∧ Mod NoB w w' | _ => False, fun l' _ => match l' with | [.i _ x] => (32 - x).toNat | _ => 0, ⟨0, rfl, by omega, ⟨_, hb, rfl⟩, hN.mod⟩, ?_⟩
  rintro x w2 ⟨k, rfl, hk, ⟨l, hbl, hll⟩, hm⟩
  refine condK_i (fun hlt => ?_) fun hge => ⟨⟨_, _, _⟩, rfl, hm⟩
  have hk' : k < 32 := by simp at hlt; omega
  refine ⟨⟨by omega, by show (k : Int) < ((32 : Nat) : Int); omega⟩, ?_⟩
  simp only [Int.toNat_natCast]
  show semU _ (storeVar _ ((⟨b, 0, none⟩ : Addr).add (k * 1)) _) _ _
  rw [addl]
  refine semU_store1 (b := b) (o := 0 + k * 1) (by kernel_rfl) (by kernel_rfl) rfl hbl (by omega) fun w3 ht hb3 => ⟨⟨k + 1, wrap_nat (by omega), by omega, ⟨_, hb3, by simp [hll]⟩, hm.fresh ht.mod fun z e => by (have : z = b := e); omega⟩, ?_⟩
  rw [wrap_nat (by omega)]; (try simp only []); omega
theorem c_smallV {k : List UInt8} {a b : Int} {s x y : Slc} {g : Bool} : Calls Tryz.prog 5 #[.agg #[.string ⟨k.toArray⟩, .int .i64 a, .int .i64 b, .slice s.a s.len s.cap, .bool g, .slice x.a x.len x.cap, .slice y.a y.len y.cap]] w (Ret fun v w' => (∃ t, v = .bool t) ∧ Mod NoB w w') := by
  refine call5 _ _ _ _ _ _ _ ?_
  unfold sh5
  refine sem_box (l := [.string ⟨k.toArray⟩, .int .i64 a, .int .i64 b, s.val, .bool g, x.val, y.val]) rfl fun q w1 hN1 hb1 => ⟨_, rfl, ?_⟩
  refine ⟨k, hb1.rd1 (o := 0) rfl, condK_i (fun _ => ?_) fun _ => ⟨⟨_, rfl⟩, hN1.mod⟩⟩
  refine ⟨x, hb1.rd1 (o := 5) rfl, condK_i (fun _ => ?_) fun _ => ⟨⟨_, rfl⟩, hN1.mod⟩⟩
  refine ⟨s, hb1.rd1 (o := 3) rfl, condK_i (fun _ => ?_) fun _ => ⟨⟨_, rfl⟩, hN1.mod⟩⟩
  exact ⟨y, hb1.rd1 (o := 6) rfl, ⟨_, rfl⟩, hN1.mod⟩
end
noncomputable def zroot : X.XV := .agg [.int .i64 0, .int .i64 0, .int .i64 0, .sl none 0 0, .sl none 0 0]
noncomputable def zheld : X.XV := .agg [.sl none 0 0, .sl none 0 0, .sl none 0 0, .sl none 0 0]
theorem x_root0 : resV (runA 12 [zroot, zroot] ⟨.lf, 0⟩) = some (.bool true) := by kernel_rfl
theorem x_held0 : resV (runA 16 [zheld, zheld] ⟨.lf, 0⟩) = some (.bool true) := by kernel_rfl
theorem c_root0 {w : World} (hw : GS w) : Calls Tryz.prog 12 #[.agg rt0.toArray, .agg rt0.toArray] w (Ret fun v w' => v = .bool true ∧ Mod NoB w w') := by
  obtain ⟨h', e1⟩ := resV_ex x_root0
  have hq := X.quiet_dry ((X.xcalls_ok mixed dF_ok nA_ok 60).c _ _ _ _ _ e1) (fun _ => rfl) (fun _ => rfl) ⟨.lf, 0⟩
  have hz : X.XR (fun _ => none) zroot (.agg rt0.toArray) := by
    simp only [zroot, X.XR]
    exact ⟨rt0, ⟨_, _, rfl, rfl, _, _, rfl, rfl, _, _, rfl, rfl, _, _, rfl, rfl, _, _, rfl, rfl, rfl⟩, rfl⟩
  refine Calls.mono (c_q hq (fun w' hm => hw.no hm) (vs := [.agg rt0.toArray, .agg rt0.toArray]) ⟨_, _, rfl, hz, _, _, rfl, hz, rfl⟩) fun e w' ⟨v, h1, h2, h3⟩ => ?_
  simp only [X.XR] at h2
  subst h1 h2
  exact ⟨rfl, h3⟩
theorem c_held0 {w : World} (hw : GS w) : Calls Tryz.prog 16 #[.agg hd0.toArray, .agg hd0.toArray] w (Ret fun v w' => v = .bool true ∧ Mod NoB w w') := by
  obtain ⟨h', e1⟩ := resV_ex x_held0
  have hq := X.quiet_dry ((X.xcalls_ok mixed dF_ok nA_ok 60).c _ _ _ _ _ e1) (fun _ => rfl) (fun _ => rfl) ⟨.lf, 0⟩
  have hz : X.XR (fun _ => none) zheld (.agg hd0.toArray) := by
    simp only [zheld, X.XR]
    exact ⟨hd0, ⟨_, _, rfl, rfl, _, _, rfl, rfl, _, _, rfl, rfl, _, _, rfl, rfl, rfl⟩, rfl⟩
  refine Calls.mono (c_q hq (fun w' hm => hw.no hm) (vs := [.agg hd0.toArray, .agg hd0.toArray]) ⟨_, _, rfl, hz, _, _, rfl, hz, rfl⟩) fun e w' ⟨v, h1, h2, h3⟩ => ?_
  simp only [X.XR] at h2
  subst h1 h2
  exact ⟨rfl, h3⟩
end Go.Proofs.YtagjijbaghnmfaaGreatDoor
end
section
namespace Go.Proofs.YtagjijbaghnmfaaGreatDoor
open Go Go.Sh Go.X
noncomputable def withE (C : CallsX) (es : List Ent) : CallsX := ⟨orC (entsC es) C.c, C.e, C.g, C.q, C.y, C.x⟩
def EsOk (es : List Ent) : Prop := ∀ e ∈ es, EntOk Tryz.prog GS e
theorem withE_ok {C : CallsX} (hC : CallsOk Tryz.prog GS C) {es : List Ent} (h : EsOk es) : CallsOk Tryz.prog GS (withE C es) := ⟨orC_ok (fun f xs h' y h2 => entsC_ok h) hC.c, hC.e, hC.g, hC.q, hC.y, hC.x⟩
theorem EsOk.cons {es : List Ent} (h : EsOk es) {e : Ent} (he : EntOk Tryz.prog GS e) : EsOk (e :: es) := fun x hx => by
  rcases List.mem_cons.1 hx with rfl | hx
  · exact he
  · exact h x hx
noncomputable def entR (C : CallsX) (es : List Ent) (e : Ent) : Bool := (fun r => X.br (entB e r) (keptB e r) false) ((xcalls Tryz.prog dF (withE C es) 1000 60).c e.f e.xs e.heap)
theorem entK {C : CallsX} (hC : CallsOk Tryz.prog GS C) {es : List Ent} (hes : EsOk es) {e : Ent} (h : entR C es e = true) : EntOk Tryz.prog GS e := by
  obtain ⟨h1, h2⟩ := br_and h
  exact ent_of (xcalls_ok mixed dF_ok (withE_ok hC hes) 60) rfl h1 h2
abbrev bt0 : List Nat := [98, 93, 148, 41, 51, 119, 71, 10, 114, 156, 141, 245, 44, 39, 9, 226, 92, 226, 18, 173, 225, 185, 206, 175, 45, 120, 223, 102, 85, 174, 58, 179, 153, 25, 75, 52, 36, 234, 9, 183, 161, 217, 98, 28, 128, 78, 199, 171, 255, 246, 16, 106, 107, 53, 4, 177, 19, 204, 226, 236, 219, 11, 146, 4]
abbrev bt1 : List Nat := [1, 0, 0, 0, 0, 0, 0, 0, 1, 107, 0, 0, 0, 0, 0, 0, 0, 1, 0, 0, 0, 0, 0, 0, 0, 1, 0, 0, 0, 0, 0, 0, 0, 0, 0, 0, 0, 0, 0, 0, 0, 0, 0, 98, 93, 148, 41, 51, 119, 71, 10, 114, 156, 141, 245, 44, 39, 9, 226, 92, 226, 18, 173, 225, 185, 206, 175, 45, 120, 223, 102, 85, 174, 58, 179, 153, 25, 75, 52, 36, 234, 9, 183, 161, 217, 98, 28, 128, 78, 199, 171, 255, 246, 16, 106, 107, 53, 4, 177, 19, 204, 226, 236, 219, 11, 146, 4]
abbrev bt2 : List Nat := [58, 185, 34, 32, 84, 201, 20, 146, 209, 216, 92, 5, 85, 92, 163, 24, 82, 153, 231, 183, 243, 163, 192, 137, 94, 10, 232, 77, 17, 190, 225, 238, 4, 231, 103, 130, 210, 33, 155, 209, 34, 157, 145, 237, 150, 46, 104, 251, 43, 172, 41, 100, 125, 197, 221, 191, 236, 40, 109, 19, 211, 121, 100, 90]
abbrev bt3 : List Nat := [178, 138, 134, 188, 67, 12, 187, 146, 183, 198, 178, 115, 240, 189, 153, 65, 225, 111, 177, 25, 87, 10, 159, 164, 86, 103, 76, 188, 164, 34, 201, 43, 54, 48, 5, 74, 203, 56, 239, 227, 126, 72, 96, 156, 146, 76, 246, 185, 165, 179, 99, 251, 233, 18, 173, 39, 160, 207, 117, 164, 165, 240, 39, 10]
abbrev bt4 : List Nat := [2, 0, 0, 0, 0, 0, 0, 0, 2, 0, 0, 0, 0, 0, 0, 0, 0, 0, 0, 0, 0, 0, 0, 0, 1, 58, 185, 34, 32, 84, 201, 20, 146, 209, 216, 92, 5, 85, 92, 163, 24, 82, 153, 231, 183, 243, 163, 192, 137, 94, 10, 232, 77, 17, 190, 225, 238, 4, 231, 103, 130, 210, 33, 155, 209, 34, 157, 145, 237, 150, 46, 104, 251, 43, 172, 41, 100, 125, 197, 221, 191, 236, 40, 109, 19, 211, 121, 100, 90, 178, 138, 134, 188, 67, 12, 187, 146, 183, 198, 178, 115, 240, 189, 153, 65, 225, 111, 177, 25, 87, 10, 159, 164, 86, 103, 76, 188, 164, 34, 201, 43, 54, 48, 5, 74, 203, 56, 239, 227, 126, 72, 96, 156, 146, 76, 246, 185, 165, 179, 99, 251, 233, 18, 173, 39, 160, 207, 117, 164, 165, 240, 39, 10]
noncomputable def es0 : List Ent := []
theorem ek0 : EsOk es0 := fun e h => by cases h
noncomputable def en0 : Ent := ⟨58, [], [.int .i64 (.ofNat 1)], [], .sl (some (0, 0)) 8 8, [(0, some (.cells (mapB [0, 0, 0, 0, 0, 0, 0, 1])))], 1⟩
noncomputable def es1 : List Ent := en0 :: es0
theorem ek1 : EsOk es1 := ek0.cons (entK nA_ok ek0 (by kernel_rfl))
noncomputable def en1 : Ent := ⟨58, [], [.int .i64 (.ofNat 0)], [], .sl (some (0, 0)) 8 8, [(0, some (.cells (mapB [0, 0, 0, 0, 0, 0, 0, 0])))], 1⟩
noncomputable def es2 : List Ent := en1 :: es1
theorem ek2 : EsOk es2 := ek1.cons (entK nA_ok ek1 (by kernel_rfl))
noncomputable def en2 : Ent := ⟨102, [], [.sl none 0 0], [], .tup [.sl (some (4, 0)) 8 8, .int .i64 (.ofNat 0)], [(4, some (.cells (mapB [0, 0, 0, 0, 0, 0, 0, 0])))], 5⟩
noncomputable def es3 : List Ent := en2 :: es2
theorem ek3 : EsOk es3 := ek2.cons (entK nA_ok ek2 (by kernel_rfl))
noncomputable def en3 : Ent := ⟨43, [(none, 6)], [.agg [.str [107], .int .i64 (.ofNat 1), .int .i64 (.ofNat 1), .sl none 0 0, .bool false, .sl none 0 0, .slu 0 0 64 1]], [.row (mapB bt0)], .tup [.slu 144 0 107 1, .int .i64 (.ofNat 0)], [(144, some (.row (mapB bt1)))], 145⟩
noncomputable def es4 : List Ent := en3 :: es3
theorem ek4 : EsOk es4 := ek3.cons (entK nA_ok ek3 (by kernel_rfl))
noncomputable def en4 : Ent := ⟨43, [(none, 5), (none, 6)], [.agg [.str [107], .int .i64 (.ofNat 1), .int .i64 (.ofNat 1), .sl none 0 0, .bool false, .sl (some (0, 0)) 0 0, .slu 1 0 64 1]], [.cells [], .row (mapB bt0)], .tup [.slu 145 0 107 1, .int .i64 (.ofNat 0)], [(145, some (.row (mapB bt1)))], 146⟩
noncomputable def es5 : List Ent := en4 :: es4
theorem ek5 : EsOk es5 := ek4.cons (entK nA_ok ek4 (by kernel_rfl))
noncomputable def en5 : Ent := ⟨79, [(none, 0)], [.slu 0 0 107 1], [.row (mapB bt1)], .tup [.agg [.str [107], .int .i64 (.ofNat 1), .int .i64 (.ofNat 1), .sl none 0 0, .bool false, .sl (some (75, 0)) 0 0, .slu 77 0 64 1], .int .i64 (.ofNat 0)], [(75, some (.cells [])), (77, some (.row (mapB bt0)))], 222⟩
noncomputable def es6 : List Ent := en5 :: es5
theorem ek6 : EsOk es6 := ek5.cons (entK nA_ok ek5 (by kernel_rfl))
noncomputable def en6 : Ent := ⟨238, [(none, 0), (some 0, 1), (some 1, 6)], [.sl (some (0, 0)) 2 2], [.cells [.sl none 0 0, .sl (some (1, 0)) 1 1], .cells [.str [107], .int .i64 (.ofNat 1), .int .i64 (.ofNat 1), .sl none 0 0, .bool false, .sl none 0 0, .slu 2 0 64 1], .row (mapB bt0)], .tup [.slu 444 0 1 7, .int .i64 (.ofNat 0)], [(444, some (.row [.str [107], .int .i64 (.ofNat 1), .int .i64 (.ofNat 1), .sl none 0 0, .bool false, .sl (some (295, 0)) 0 0, .slu 297 0 64 1])), (295, some (.cells [])), (297, some (.row (mapB bt0)))], 445⟩
noncomputable def es7 : List Ent := en6 :: es6
theorem ek7 : EsOk es7 := ek6.cons (entK nA_ok ek6 (by kernel_rfl))
noncomputable def en7 : Ent := ⟨401, [(none, 0), (some 0, 5), (some 0, 6)], [.slu 0 0 1 7], [.row [.str [107], .int .i64 (.ofNat 1), .int .i64 (.ofNat 1), .sl none 0 0, .bool false, .sl (some (1, 0)) 0 0, .slu 2 0 64 1], .cells [], .row (mapB bt0)], .bool true, [], 234⟩
noncomputable def es8 : List Ent := en7 :: es7
theorem ek8 : EsOk es8 := ek7.cons (entK nA_ok ek7 (by kernel_rfl))
noncomputable def en8 : Ent := ⟨238, [(none, 0), (some 0, 0), (some 1, 5), (some 1, 6)], [.sl (some (0, 0)) 1 1], [.cells [.slu 1 0 1 7], .row [.str [107], .int .i64 (.ofNat 1), .int .i64 (.ofNat 1), .sl none 0 0, .bool false, .sl (some (2, 0)) 0 0, .slu 3 0 64 1], .cells [], .row (mapB bt0)], .tup [.slu 445 0 1 7, .int .i64 (.ofNat 0)], [(445, some (.row [.str [107], .int .i64 (.ofNat 1), .int .i64 (.ofNat 1), .sl none 0 0, .bool false, .sl (some (296, 0)) 0 0, .slu 298 0 64 1])), (296, some (.cells [])), (298, some (.row (mapB bt0)))], 446⟩
noncomputable def es9 : List Ent := en8 :: es8
theorem ek9 : EsOk es9 := ek8.cons (entK nA_ok ek8 (by kernel_rfl))
noncomputable def en9 : Ent := ⟨185, [(none, 0), (some 0, 5), (some 0, 6)], [.slu 0 0 1 7], [.row [.str [107], .int .i64 (.ofNat 1), .int .i64 (.ofNat 1), .sl none 0 0, .bool false, .sl (some (1, 0)) 0 0, .slu 2 0 64 1], .cells [], .row (mapB bt0)], .slu 445 0 1 7, [(445, some (.row [.str [107], .int .i64 (.ofNat 1), .int .i64 (.ofNat 1), .sl none 0 0, .bool false, .sl (some (296, 0)) 0 0, .slu 298 0 64 1])), (296, some (.cells [])), (298, some (.row (mapB bt0)))], 446⟩
noncomputable def es10 : List Ent := en9 :: es9
theorem ek10 : EsOk es10 := ek9.cons (entK nA_ok ek9 (by kernel_rfl))
noncomputable def en10 : Ent := ⟨58, [], [.int .i64 (.ofNat 107)], [], .sl (some (0, 0)) 8 8, [(0, some (.cells (mapB [0, 0, 0, 0, 0, 0, 0, 107])))], 1⟩
noncomputable def es11 : List Ent := en10 :: es10
theorem ek11 : EsOk es11 := ek10.cons (entK nA_ok ek10 (by kernel_rfl))
noncomputable def en11 : Ent := ⟨102, [(none, 0), (some 0, 5), (some 0, 6)], [.slu 0 0 1 7], [.row [.str [107], .int .i64 (.ofNat 1), .int .i64 (.ofNat 1), .sl none 0 0, .bool false, .sl (some (1, 0)) 0 0, .slu 2 0 64 1], .cells [], .row (mapB bt0)], .tup [.slu 240 0 123 1, .int .i64 (.ofNat 0)], [(240, some (.row (mapB [0, 0, 0, 0, 0, 0, 0, 1, 0, 0, 0, 0, 0, 0, 0, 107, 1, 0, 0, 0, 0, 0, 0, 0, 1, 107, 0, 0, 0, 0, 0, 0, 0, 1, 0, 0, 0, 0, 0, 0, 0, 1, 0, 0, 0, 0, 0, 0, 0, 0, 0, 0, 0, 0, 0, 0, 0, 0, 0, 98, 93, 148, 41, 51, 119, 71, 10, 114, 156, 141, 245, 44, 39, 9, 226, 92, 226, 18, 173, 225, 185, 206, 175, 45, 120, 223, 102, 85, 174, 58, 179, 153, 25, 75, 52, 36, 234, 9, 183, 161, 217, 98, 28, 128, 78, 199, 171, 255, 246, 16, 106, 107, 53, 4, 177, 19, 204, 226, 236, 219, 11, 146, 4])))], 241⟩
noncomputable def es12 : List Ent := en11 :: es11
theorem ek12 : EsOk es12 := ek11.cons (entK nA_ok ek11 (by kernel_rfl))
noncomputable def en12 : Ent := ⟨58, [], [.int .i64 (.ofNat 108)], [], .sl (some (0, 0)) 8 8, [(0, some (.cells (mapB [0, 0, 0, 0, 0, 0, 0, 108])))], 1⟩
noncomputable def es13 : List Ent := en12 :: es12
theorem ek13 : EsOk es13 := ek12.cons (entK nA_ok ek12 (by kernel_rfl))
noncomputable def en13 : Ent := ⟨58, [], [.int .i64 (.ofNat 34303904060814)], [], .sl (some (0, 0)) 8 8, [(0, some (.cells (mapB [0, 0, 31, 51, 0, 4, 21, 142])))], 1⟩
noncomputable def es14 : List Ent := en13 :: es13
theorem ek14 : EsOk es14 := ek13.cons (entK nA_ok ek13 (by kernel_rfl))
noncomputable def en14 : Ent := ⟨178, [(none, 1)], [.agg [u8 1, .slu 0 0 107 1]], [.row (mapB bt1)], .tup [.slu 27 0 124 1, .int .i64 (.ofNat 0)], [(27, some (.row (mapB [0, 0, 0, 0, 0, 0, 0, 108, 1, 1, 0, 0, 0, 0, 0, 0, 0, 1, 107, 0, 0, 0, 0, 0, 0, 0, 1, 0, 0, 0, 0, 0, 0, 0, 1, 0, 0, 0, 0, 0, 0, 0, 0, 0, 0, 0, 0, 0, 0, 0, 0, 0, 98, 93, 148, 41, 51, 119, 71, 10, 114, 156, 141, 245, 44, 39, 9, 226, 92, 226, 18, 173, 225, 185, 206, 175, 45, 120, 223, 102, 85, 174, 58, 179, 153, 25, 75, 52, 36, 234, 9, 183, 161, 217, 98, 28, 128, 78, 199, 171, 255, 246, 16, 106, 107, 53, 4, 177, 19, 204, 226, 236, 219, 11, 146, 4, 0, 0, 31, 51, 0, 4, 21, 142])))], 28⟩
noncomputable def es15 : List Ent := en14 :: es14
theorem ek15 : EsOk es15 := ek14.cons (entK nA_ok ek14 (by kernel_rfl))
noncomputable def en15 : Ent := ⟨254, [], [.agg [u8 1, .sl none 0 0, .sl none 0 0, .sl none 0 0]], [], .slu 30 0 64 1, [(30, some (.row (mapB [184, 36, 77, 2, 137, 129, 214, 147, 175, 123, 69, 106, 248, 239, 164, 202, 214, 61, 40, 46, 25, 255, 20, 148, 44, 36, 110, 80, 217, 53, 29, 34, 112, 74, 128, 42, 113, 195, 88, 11, 99, 112, 222, 76, 235, 41, 60, 50, 74, 132, 35, 52, 37, 87, 212, 229, 195, 132, 56, 240, 227, 105, 16, 238])))], 31⟩
noncomputable def es16 : List Ent := en15 :: es15
theorem ek16 : EsOk es16 := ek15.cons (entK nA_ok ek15 (by kernel_rfl))
noncomputable def en16 : Ent := ⟨58, [], [.int .i64 (.ofNat 2)], [], .sl (some (0, 0)) 8 8, [(0, some (.cells (mapB [0, 0, 0, 0, 0, 0, 0, 2])))], 1⟩
noncomputable def es17 : List Ent := en16 :: es16
theorem ek17 : EsOk es17 := ek16.cons (entK nA_ok ek16 (by kernel_rfl))
noncomputable def en17 : Ent := ⟨38, [(none, 3), (none, 4)], [.agg [.int .i64 (.ofNat 2), .int .i64 (.ofNat 0), .int .i64 (.ofNat 1), .slu 0 0 64 1, .slu 1 0 64 1]], [.row (mapB bt2), .row (mapB bt3)], .tup [.slu 42 0 153 1, .int .i64 (.ofNat 0)], [(42, some (.row (mapB bt4)))], 43⟩
noncomputable def es18 : List Ent := en17 :: es17
theorem ek18 : EsOk es18 := ek17.cons (entK nA_ok ek17 (by kernel_rfl))
noncomputable def en18 : Ent := ⟨58, [], [.int .i64 (.ofNat 154)], [], .sl (some (0, 0)) 8 8, [(0, some (.cells (mapB [0, 0, 0, 0, 0, 0, 0, 154])))], 1⟩
noncomputable def es19 : List Ent := en18 :: es18
theorem ek19 : EsOk es19 := ek18.cons (entK nA_ok ek18 (by kernel_rfl))
noncomputable def en19 : Ent := ⟨58, [], [.int .i64 (.ofNat 72932840750738)], [], .sl (some (0, 0)) 8 8, [(0, some (.cells (mapB [0, 0, 66, 85, 0, 16, 190, 146])))], 1⟩
noncomputable def es20 : List Ent := en19 :: es19
theorem ek20 : EsOk es20 := ek19.cons (entK nA_ok ek19 (by kernel_rfl))
noncomputable def en20 : Ent := ⟨178, [(none, 1)], [.agg [u8 2, .slu 0 0 153 1]], [.row (mapB bt4)], .tup [.slu 27 0 170 1, .int .i64 (.ofNat 0)], [(27, some (.row (mapB [0, 0, 0, 0, 0, 0, 0, 154, 2, 2, 0, 0, 0, 0, 0, 0, 0, 2, 0, 0, 0, 0, 0, 0, 0, 0, 0, 0, 0, 0, 0, 0, 0, 1, 58, 185, 34, 32, 84, 201, 20, 146, 209, 216, 92, 5, 85, 92, 163, 24, 82, 153, 231, 183, 243, 163, 192, 137, 94, 10, 232, 77, 17, 190, 225, 238, 4, 231, 103, 130, 210, 33, 155, 209, 34, 157, 145, 237, 150, 46, 104, 251, 43, 172, 41, 100, 125, 197, 221, 191, 236, 40, 109, 19, 211, 121, 100, 90, 178, 138, 134, 188, 67, 12, 187, 146, 183, 198, 178, 115, 240, 189, 153, 65, 225, 111, 177, 25, 87, 10, 159, 164, 86, 103, 76, 188, 164, 34, 201, 43, 54, 48, 5, 74, 203, 56, 239, 227, 126, 72, 96, 156, 146, 76, 246, 185, 165, 179, 99, 251, 233, 18, 173, 39, 160, 207, 117, 164, 165, 240, 39, 10, 0, 0, 66, 85, 0, 16, 190, 146])))], 28⟩
noncomputable def es21 : List Ent := en20 :: es20
theorem ek21 : EsOk es21 := ek20.cons (entK nA_ok ek20 (by kernel_rfl))
noncomputable def en21 : Ent := ⟨238, [(none, 0), (some 0, 1), (some 1, 5), (some 1, 6)], [.sl (some (0, 0)) 2 2], [.cells [.sl none 0 0, .sl (some (1, 0)) 1 1], .cells [.str [107], .int .i64 (.ofNat 1), .int .i64 (.ofNat 1), .sl none 0 0, .bool false, .sl (some (2, 0)) 0 0, .slu 3 0 64 1], .cells [], .row (mapB bt0)], .tup [.slu 445 0 1 7, .int .i64 (.ofNat 0)], [(445, some (.row [.str [107], .int .i64 (.ofNat 1), .int .i64 (.ofNat 1), .sl none 0 0, .bool false, .sl (some (296, 0)) 0 0, .slu 298 0 64 1])), (296, some (.cells [])), (298, some (.row (mapB bt0)))], 446⟩
noncomputable def es22 : List Ent := en21 :: es21
theorem ek22 : EsOk es22 := ek21.cons (entK nA_ok ek21 (by kernel_rfl))
noncomputable def en22 : Ent := ⟨81, [(none, 0)], [.slu 0 0 153 1], [.row (mapB bt4)], .tup [.agg [.int .i64 (.ofNat 2), .int .i64 (.ofNat 0), .int .i64 (.ofNat 1), .slu 27 0 64 1, .slu 29 0 64 1], .int .i64 (.ofNat 0)], [(27, some (.row (mapB bt2))), (29, some (.row (mapB bt3)))], 33⟩
noncomputable def es23 : List Ent := en22 :: es22
theorem ek23 : EsOk es23 := ek22.cons (entK nA_ok ek22 (by kernel_rfl))
noncomputable def en23 : Ent := ⟨155, [(none, 0), (none, 4), (none, 5)], [.slu 0 0 32 1, .agg [.int .i64 (.ofNat 2), .int .i64 (.ofNat 0), .int .i64 (.ofNat 1), .slu 1 0 64 1, .slu 2 0 64 1]], [.row (mapB [151, 245, 163, 123, 101, 176, 177, 30, 48, 14, 54, 80, 125, 118, 16, 171, 243, 107, 159, 255, 198, 242, 23, 187, 57, 229, 25, 79, 158, 225, 110, 139]), .row (mapB bt2), .row (mapB bt3)], .int .i64 (.ofNat 0), [], 55966⟩
noncomputable def es24 : List Ent := en23 :: es23
theorem ek24 : EsOk es24 := ek23.cons (entK nA_ok ek23 (by kernel_rfl))
noncomputable abbrev runW (f : FuncId) (xs : List XV) (h : Hp) : Option (XV × Hp) := (xcalls Tryz.prog dF (withE nA es24) 1000 60).c f xs h
theorem awakeV : resV (runW 4 [] ⟨.lf, 0⟩) = some (.bool true) := by kernel_rfl
theorem c_awake22 {w : World} (hw : GS w) : Calls Tryz.prog 4 #[] w (Ret fun v w' => v = .bool true ∧ Mod NoB w w') := by
  obtain ⟨h', e1⟩ := resV_ex awakeV
  have hq := quiet_dry ((xcalls_ok mixed dF_ok (withE_ok nA_ok ek24) 60).c _ _ _ _ _ e1) (fun _ => rfl) (fun _ => rfl) ⟨.lf, 0⟩
  refine Calls.mono (c_q hq (fun w' hm => hw.no hm) (vs := []) rfl) fun e w' ⟨v, h1, h2, h3⟩ => ?_
  simp only [XR] at h2
  subst h1 h2
  exact ⟨rfl, h3⟩
end Go.Proofs.YtagjijbaghnmfaaGreatDoor
end
section
namespace Go.Proofs.YtagjijbaghnmfaaGreatDoor
open Go Go.Sh
theorem iPV : ∃ i, Tryz.prog.info? 28 = some i ∧ i.zero = some (.pointer none) ∧ i.size = 1 ∧ i.bytes = 8 := info_of (by kernel_rfl) (by kernel_rfl) (by kernel_rfl)
theorem uPVs : Tryz.prog.underlying 51 = some (.slice 28) := by kernel_rfl
theorem iRecV : ∃ i, Tryz.prog.info? 25 = some i ∧ i.zero = some (.agg #[.string ⟨#[]⟩, .int .i64 0, .int .i64 0, .slice none 0 0, .bool false, .slice none 0 0, .slice none 0 0]) ∧ i.size = 7 ∧ i.bytes = 112 := info_of (by kernel_rfl) (by kernel_rfl) (by kernel_rfl)
theorem uRecsV : Tryz.prog.underlying 57 = some (.slice 25) := by kernel_rfl
section
variable {w : World}
theorem c_vaultNone {k : List UInt8} {a b : Int} {s x y : Slc} {g : Bool} {n id : Int} (hG : GS w) :
    Calls Tryz.prog 3 #[.agg #[.string ⟨k.toArray⟩, .int .i64 a, .int .i64 b, .slice s.a s.len s.cap, .bool g, .slice x.a x.len x.cap, .slice y.a y.len y.cap], .int .i64 n, .int .i64 id] w (Ret fun v w' => v = .bool true ∧ Mod NoB w w') := by
  refine call3 _ _ _ _ _ _ _ _ _ ?_
  unfold sh3
  let rc : List Value := [.string ⟨k.toArray⟩, .int .i64 a, .int .i64 b, s.val, .bool g, x.val, y.val]
  refine sem_box (l := rc) rfl fun q w1 hN1 hb1 => ⟨_, rfl, ?_⟩
  refine callK_ret (c_awake22 (hG.no hN1.mod)) ?_
  rintro v w2 ⟨rfl, hm2⟩
  refine ⟨_, rfl, condK_i (fun h => by cases h) fun _ => ?_⟩
  have hM2 := hN1.mod.tr hm2
  have hb2 := hb1.no hm2
  have hrd : ∀ w', Mod NoB w2 w' → Rd w' ⟨q, 0, none⟩ rc := fun w' hm => (hb2.no hm).rd fun j v hj => by simpa using hj
  refine ⟨k, a, b, s, g, x, y, hrd _ (Mod.refl _ _), ?_⟩
  refine callK_ret c_smallV ?_
  rintro v w3 ⟨⟨t, rfl⟩, hm3⟩
  refine ⟨_, rfl, condK_i (fun _ => ⟨rfl, hM2.tr hm3⟩) fun _ => ?_⟩
  refine callK_ret c_seedN ?_
  rintro v w4 ⟨sd, rfl, hm4⟩
  refine ⟨sd, rfl, ?_⟩
  refine callK_ret (c_OpenN (.inl rfl)) ?_
  rintro v w5 ⟨rfl, rfl⟩
  refine ⟨none, 1, rfl, ?_⟩
  refine sem_box (l := dk0) rfl fun db w6 hN6 hb6 => ⟨_, rfl, ?_⟩
  refine callK_ret (c_OpenN (s := ⟨none, 0, 0⟩) (.inr ⟨db, _, rfl, hb6⟩)) ?_
  rintro v w7 ⟨rfl, rfl⟩
  refine ⟨none, 1, rfl, ?_⟩
  have hm27 := (hm3.tr hm4).tr hN6.mod
  refine ⟨fun l w' => match l with | [.b t] => t = false ∧ w' = w7 | _ => False, condK_i (fun h => by simp at h) fun _ => ⟨rfl, rfl⟩, ?_⟩
  rintro t1 w8 ⟨rfl, rfl⟩
  refine condK_i (fun h => by cases h) fun _ => ?_
  refine sem_box (l := va0) rfl fun cb w9 hN9 hb9 => ⟨_, rfl, ?_⟩
  obtain ⟨ipc, c1, c2, c3, c4⟩ := iPV
  obtain ⟨ir, r1, r2, r3, r4⟩ := iRoot0
  obtain ⟨iq, q1, q2, q3, q4⟩ := iRecV
  refine sem_lit (l := [.pointer none, .pointer (some ⟨cb, 0, none⟩)]) [.pointer none, .pointer (some ⟨cb, 0, none⟩)] uPVs c1 c2 c3 (by decide) rfl (by decide) (by decide) rfl (by simp [Value.cells]) rfl fun lb w10 hN10 hb10 => ⟨⟨_, _, _⟩, rfl, ?_⟩
  have hm210 := (hm27.tr hN9.mod).tr hN10.mod
  have hb910 := hb9.no hN10.mod
  refine ⟨fun l' w' => match l' with | [.i _ z] => ∃ j : Nat, z = j ∧ j ≤ 2 ∧ Mod NoB w10 w' | _ => False, fun l' _ => match l' with | [.i _ z] => (2 - z).toNat | _ => 0, ⟨0, rfl, by omega, Mod.refl _ _⟩, ?_⟩
  rintro z w11 ⟨j, rfl, hj, hm11⟩
  refine condK_i (fun hlt => ?_) fun hge => ⟨rfl, (hM2.tr hm210).tr hm11⟩
  have hj' : j < 2 := by simp at hlt; omega
  obtain ⟨c, hc, hrc⟩ : ∃ c : Option Addr, NoOf va0 w10 c ∧ Rd w11 ((⟨lb, 0, none⟩ : Addr).add (j * 1)) [.pointer c] := by
    match j, hj' with
    | 0, _ => exact ⟨none, .inl rfl, (hb10.no hm11).rd1 (o := 0) rfl⟩
    | 1, _ => exact ⟨some ⟨cb, 0, none⟩, .inr ⟨cb, _, rfl, hb910⟩, (hb10.no hm11).rd1 (o := 1) rfl⟩
  refine ⟨⟨by omega, by show (j : Int) < ((2 : Nat) : Int); omega⟩, c, hrc, ?_⟩
  refine callK_ret (c_IssueN (hc.no hm11)) ?_
  rintro v w12 ⟨rfl, hm12⟩
  refine ⟨0, 0, 0, ⟨none, 0, 0⟩, ⟨none, 0, 0⟩, 1, rfl, ?_⟩
  refine sem_alloc (l := rt0) r1 r2 rfl fun p w13 hN13 hb13 => ⟨_, rfl, ?_⟩
  have e13 := hN13.at_
  refine semU_store (o := 0) (vs := rt0) (by kernel_rfl) (by kernel_rfl) rfl hb13 (by simp [rt0]) rt0_one fun w14 ht14 hb14 => ?_
  have hb14 : Blk w14 p rt0 _ := hb14
  have hm1114 : Mod NoB w11 w14 := hm12.tr (hN13.mod.fresh ht14.mod fun z e => by (have : z = p := e); omega)
  have hm14 := hm11.tr hm1114
  have hm214 := hm210.tr hm14
  refine ⟨k, a, b, s, g, x, y, hrd _ hm214, ?_⟩
  refine sem_lit (l := rc) [.agg rc.toArray] uRecsV q1 q2 q3 (by decide) rfl (by decide) (by decide) rfl (by simp [Value.cells, rc]) rfl fun rb w15 hN15 hb15 => ⟨⟨some ⟨rb, 0, none⟩, 1, 1⟩, rfl, ?_⟩
  have hm15 := hm14.tr hN15.mod
  refine callK_ret (c_PutN (s := ⟨some ⟨rb, 0, none⟩, 1, 1⟩) (hc.no hm15)) ?_
  rintro v w16 ⟨rfl, rfl⟩
  refine ⟨1, rfl, condK_i (fun h => by simp at h) fun _ => ?_⟩
  refine ⟨k, by rw [addl]; exact (hb2.no (hm210.tr hm15)).rd1 (o := 0) rfl, ?_⟩
  refine callK_ret (c_GetN (hc.no hm15)) ?_
  rintro v w17 ⟨rfl, rfl⟩
  refine ⟨⟨none, 0, 0⟩, rfl, condK_i (fun h => by simp at h) fun _ => ?_⟩
  refine callK_ret (c_TreeN (hc.no hm15)) ?_
  rintro v w18 ⟨rfl, rfl⟩
  refine ⟨none, rfl, ps_neq_ptr (e := 152) (by kernel_rfl) ⟨_, rfl, condK_i (fun h => by cases h) fun _ => condK_i (fun h => by simp at h) fun _ => ?_⟩⟩
  refine ⟨0, 0, 0, ⟨none, 0, 0⟩, ⟨none, 0, 0⟩, (hb14.no hN15.mod).rd fun j v hj => by simpa [rt0] using hj, ?_⟩
  refine callK_ret (c_root0 (hG.no (hM2.tr (hm210.tr hm15)))) ?_
  rintro v w19 ⟨rfl, hm19⟩
  refine ⟨_, rfl, condK_i (fun h => by cases h) fun _ => ?_⟩
  have hm19 := hm15.tr hm19
  refine callK_ret (c_AccuseN (hc.no hm19)) ?_
  rintro v w20 ⟨rfl, hm20⟩
  have hm20 := hm19.tr hm20
  refine ⟨1, rfl, condK_i (fun h => by simp at h) fun _ => ?_⟩
  refine callK_ret (c_ShutN (hc.no hm20)) ?_
  rintro v w21 ⟨rfl, rfl⟩
  refine ⟨1, rfl, condK_i (fun h => by simp at h) fun _ => ?_⟩
  refine callK_ret (c_IsShutN (hc.no hm20)) ?_
  rintro v w22 ⟨rfl, rfl⟩
  refine ⟨_, rfl, condK_i (fun h => by cases h) fun _ => ?_⟩
  refine callK_ret (c_HeldN (hc.no hm20)) ?_
  rintro v w23 ⟨rfl, hm23⟩
  have hm23 := hm20.tr hm23
  refine ⟨⟨none, 0, 0⟩, ⟨none, 0, 0⟩, ⟨none, 0, 0⟩, ⟨none, 0, 0⟩, rfl, ?_⟩
  refine callK_ret (c_held0 (hG.no (hM2.tr (hm210.tr hm23)))) ?_
  rintro v w24 ⟨rfl, hm24⟩
  have hm24 := hm23.tr hm24
  refine ⟨_, rfl, condK_i (fun h => by cases h) fun _ => ?_⟩
  refine callK_ret (c_PackN (hc.no hm24)) ?_
  rintro v w25 ⟨rfl, rfl⟩
  refine ⟨1, rfl, condK_i (fun h => by simp at h) fun _ => ⟨⟨j + 1, wrap_nat (by omega), by omega, hm24⟩, ?_⟩⟩
  rw [wrap_nat (by omega)]; (try simp only []); omega
end
end Go.Proofs.YtagjijbaghnmfaaGreatDoor
end
