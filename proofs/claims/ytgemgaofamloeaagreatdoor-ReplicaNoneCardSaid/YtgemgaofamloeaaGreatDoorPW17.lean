/- The forms of the translated functions, their contracts and the plain laws behind them, put together by a program. -/
import Derived.Test.YtgemgaofamloeaaGreatDoorPW16
import Derived.Lib.Bytealg
import Derived.Test.YtgemgaofamloeaaGreatDoorProg
set_option linter.unusedSimpArgs false
set_option linter.unusedVariables false
set_option maxRecDepth 1000000
set_option maxHeartbeats 8000000
section
namespace Go.Proofs.YtgemgaofamloeaaGreatDoor
open Go Go.Sh Go.X
noncomputable def keyR (xs : List XV) (h : Hp) : Option (List (List Nat)) := match xs with
  | [x] => rowsOf h x
  | _ => none
def DigTab (t : Tab) : Prop := ∀ k r, (k, r) ∈ t → BOk r ∧ small k ∧ sha (k.map toB).flatten = toB r
theorem digC_ok {t : Tab} (ht : DigTab t) : ∀ f xs h y h', tabC 203 keyR t f xs h = some (y, h') → CallOk Tryz.prog GS f xs h y h' :=
  tabC_ok fun xs h k r hk hm => by
    obtain ⟨hb, hs, hp⟩ := ht k r hm
    refine ⟨hb, fun S0 w0 ρ w vs hg hi hx => ?_⟩
    unfold keyR at hk
    split at hk
    · next x =>
      simp only [XRs] at hx
      obtain ⟨v, vs', rfl, h2, rfl⟩ := hx
      obtain ⟨s, ss, rfl, h5, h6, h7, h8⟩ := rowsOf_ok hi hk h2
      exact ret_mono (c_sumW (X := fun x => x < w.heap.size) hg.sha ⟨ss, h5, h6, h7, fun i a b => h8 i a b⟩ (fun _ h => h) (by have := hs.1; omega) (by have := hs.2; simp; omega)) fun v w' ⟨x, e1, e2, e3, e4⟩ => ⟨x, _, e1, by rw [← hp]; exact e2, e3, e4⟩
    · cases hk
abbrev ShTab := List (List Nat × Nat × List Nat)
noncomputable def lookS (k : List Nat) (t : ShTab) : Option (Nat × List Nat) := List.rec (motive := fun _ => Option (Nat × List Nat)) none (fun q _ ih => br (eqN q.1 k) (some q.2) ih) t
theorem lookS_mem {k : List Nat} {r : Nat × List Nat} : ∀ {t : ShTab}, lookS k t = some r → (k, r) ∈ t
  | [], h => by cases h
  | q :: t, h => by
    have h : br (eqN q.1 k) (some q.2) (lookS k t) = some r := h
    cases hb : eqN q.1 k with
    | true =>
      rw [hb, br_t] at h
      cases h
      rw [← eqN_eq hb]
      exact List.mem_cons_self
    | false =>
      rw [hb, br_f] at h
      exact List.mem_cons_of_mem _ (lookS_mem h)
def ShOk (t : ShTab) : Prop := ∀ k a l, (k, a, l) ∈ t → k.length ≤ 1000 ∧ (∀ b ∈ l, b < 256) ∧ shardOf (dg (toB k)) = (a : Int) ∧ way (dg (toB k)) = toB l
noncomputable def shQ (t : ShTab) (f : FuncId) (xs : List XV) : Option XV := match xs with
  | [.str k] => X.br (Nat.beq f 66) (onO (lookS k t) fun q => some (.int .i64 (.ofNat q.1))) (X.br (Nat.beq f 158) (onO (lookS k t) fun q => some (.str q.2)) none)
  | _ => none
theorem quiet_of {f : FuncId} {k : List Nat} {y : XV} {v : Value} (hx : ∀ ρ, (∀ x ∈ k, x < 256) → XR ρ y v) (hc : ∀ w, GS w → Calls Tryz.prog f #[.string ⟨(toB k).toArray⟩] w (Ret fun u w' => u = v ∧ Mod NoB w w')) (h : Hp) : QuietOk Tryz.prog GS f [.str k] h y := by
  intro S0 w0 ρ w vs hG hi hxs
  simp only [XRs] at hxs
  obtain ⟨u, vs', rfl, h4, rfl⟩ := hxs
  simp only [XR] at h4
  obtain ⟨h5, rfl⟩ := h4
  refine Calls.mono (hc w (hG w hi.mod)) fun e w' he => ?_
  cases e <;> first | exact he.elim | skip
  obtain ⟨rfl, hm⟩ := he
  exact ⟨_, rfl, hx ρ h5, hi.no hm⟩
theorem shQ_ok {t : ShTab} (ht : ShOk t) {f : FuncId} {xs : List XV} {y : XV} (hr : shQ t f xs = some y) (h : Hp) : QuietOk Tryz.prog GS f xs h y := by
  unfold shQ at hr
  split at hr
  · next k =>
    cases h1 : Nat.beq f 66 with
    | true =>
      rw [h1, br_t] at hr
      obtain ⟨⟨a, l⟩, h2, h3⟩ := onO_some hr
      cases h3
      obtain ⟨g1, g2, g3, g4⟩ := ht k a l (lookS_mem h2)
      have := Nat.eq_of_beq_eq_true h1
      subst this
      refine quiet_of (v := .int .i64 (a : Int)) (fun ρ _ => by simp only [XR]; rfl) (fun w hg => ?_) h
      rw [← g3]
      exact c_shardOf hg.sha (by rw [toB_len]; omega)
    | false =>
      rw [h1, br_f] at hr
      obtain ⟨h1', hr1⟩ := br_some hr
      obtain ⟨⟨a, l⟩, h2, h3⟩ := onO_some hr1
      cases h3
      obtain ⟨g1, g2, g3, g4⟩ := ht k a l (lookS_mem h2)
      have := Nat.eq_of_beq_eq_true h1'
      subst this
      refine quiet_of (v := .string ⟨(toB l).toArray⟩) (fun ρ _ => by simp only [XR]; exact ⟨g2, rfl⟩) (fun w hg => ?_) h
      rw [← g4]
      exact c_shardBits hg.sha (by rw [toB_len]; omega)
  · cases hr
noncomputable def cmpN (l : List Nat) : List Nat → Int := List.rec (motive := fun _ => List Nat → Int) (fun m => match m with | [] => .ofNat 0 | _ :: _ => .negSucc 0) (fun a _ ih m => match m with
  | [] => .ofNat 1
  | b :: r => X.br (Nat.blt a b) (.negSucc 0) (X.br (Nat.blt b a) (.ofNat 1) (ih r))) l
theorem lt8 {a b : Nat} (ha : a < 256) (hb : b < 256) : UInt8.ofNat a < UInt8.ofNat b ↔ a < b := by
  rw [UInt8.lt_iff_toNat_lt, UInt8.toNat_ofNat', UInt8.toNat_ofNat']
  omega
theorem cmpN_eq : ∀ {l m : List Nat}, (∀ x ∈ l, x < 256) → (∀ x ∈ m, x < 256) → cmpN l m = Lib.compareBytes (toB l) (toB m)
  | [], [], _, _ => rfl
  | [], _ :: _, _, _ => rfl
  | _ :: _, [], _, _ => rfl
  | a :: l, b :: m, hl, hm => by
    have ha := hl a List.mem_cons_self
    have hb := hm b List.mem_cons_self
    show X.br (Nat.blt a b) (.negSucc 0) (X.br (Nat.blt b a) (.ofNat 1) (cmpN l m)) = if UInt8.ofNat a < UInt8.ofNat b then -1 else if UInt8.ofNat b < UInt8.ofNat a then 1 else Lib.compareBytes (toB l) (toB m)
    rw [← cmpN_eq (fun x hx => hl x (List.mem_cons_of_mem _ hx)) fun x hx => hm x (List.mem_cons_of_mem _ hx)]
    have q1 : (UInt8.ofNat a < UInt8.ofNat b) = (a < b) := propext (lt8 ha hb)
    have q2 : (UInt8.ofNat b < UInt8.ofNat a) = (b < a) := propext (lt8 hb ha)
    simp only [q1, q2]
    cases h1 : Nat.blt a b with
    | true => rw [br_t, if_pos (show a < b from Nat.le_of_ble_eq_true h1)]; rfl
    | false =>
      have : ¬ a < b := fun h => by
        have := Nat.ble_eq_true_of_le h
        rw [show Nat.ble (a + 1) b = Nat.blt a b from rfl, h1] at this; cases this
      rw [br_f, if_neg this]
      cases h2 : Nat.blt b a with
      | true => rw [br_t, if_pos (show b < a from Nat.le_of_ble_eq_true h2)]; rfl
      | false =>
        have : ¬ b < a := fun h => by
          have := Nat.ble_eq_true_of_le h
          rw [show Nat.ble (b + 1) a = Nat.blt b a from rfl, h2] at this; cases this
        rw [br_f, if_neg this]
noncomputable def cmpE (f : FuncId) (xs : List XV) : Option XV := X.br (Nat.beq f 485) (match xs with
  | [.str a, .str b] => some (.int .i64 (cmpN a b))
  | _ => none) none
theorem cmpE_ok {f : FuncId} {xs : List XV} {y : XV} (h : cmpE f xs = some y) : ExtOk Tryz.prog f xs y := by
  unfold cmpE at h
  obtain ⟨h1, hq⟩ := br_some h
  clear h
  have h1 := Nat.eq_of_beq_eq_true h1
  subst h1
  split at hq
  · next a b =>
    cases hq
    intro ρ w vs hvs
    simp only [XRs, XR] at hvs
    obtain ⟨v1, r1, rfl, ⟨ha, rfl⟩, v2, r2, rfl, ⟨hb, rfl⟩, rfl⟩ := hvs
    refine ⟨.int .i64 (Lib.compareBytes (toB a) (toB b)), ?_, by simp only [XR]; rw [cmpN_eq ha hb]⟩
    rw [run_callFunc_extern Tryz.func485 (by kernel_rfl) (by kernel_rfl) (by kernel_rfl) (e := Extern.BytealgCompare.compare) (by kernel_rfl)]
    rw [show ([strV a, strV b] : List Value).toArray = #[.string ⟨(toB a).toArray⟩, .string ⟨(toB b).toArray⟩] from rfl, Lib.run_compareString]
    rfl
  · cases hq
abbrev sd0 : List Nat := [1, 1, 1, 1, 1, 1, 1, 1, 1, 1, 1, 1, 1, 1, 1, 1, 1, 1, 1, 1, 1, 1, 1, 1, 1, 1, 1, 1, 1, 1, 1, 1]
abbrev pk0 : List Nat := [138, 136, 227, 221, 116, 9, 241, 149, 253, 82, 219, 45, 60, 186, 93, 114, 202, 103, 9, 191, 29, 148, 18, 27, 243, 116, 136, 1, 180, 15, 111, 92]
abbrev sd1 : List Nat := [11, 11, 11, 11, 11, 11, 11, 11, 11, 11, 11, 11, 11, 11, 11, 11, 11, 11, 11, 11, 11, 11, 11, 11, 11, 11, 11, 11, 11, 11, 11, 11]
abbrev pk1 : List Nat := [102, 190, 126, 51, 44, 122, 69, 51, 50, 189, 157, 10, 127, 125, 176, 85, 245, 197, 239, 26, 6, 173, 166, 109, 152, 179, 159, 182, 129, 12, 71, 58]
abbrev sd2 : List Nat := [2, 2, 2, 2, 2, 2, 2, 2, 2, 2, 2, 2, 2, 2, 2, 2, 2, 2, 2, 2, 2, 2, 2, 2, 2, 2, 2, 2, 2, 2, 2, 2]
abbrev pk2 : List Nat := [129, 57, 119, 14, 168, 125, 23, 95, 86, 163, 84, 102, 195, 76, 126, 204, 203, 141, 138, 145, 180, 238, 55, 162, 93, 246, 15, 91, 143, 201, 179, 148]
abbrev sd3 : List Nat := [12, 12, 12, 12, 12, 12, 12, 12, 12, 12, 12, 12, 12, 12, 12, 12, 12, 12, 12, 12, 12, 12, 12, 12, 12, 12, 12, 12, 12, 12, 12, 12]
abbrev pk3 : List Nat := [11, 81, 58, 217, 180, 146, 64, 21, 202, 9, 2, 237, 7, 144, 68, 211, 172, 93, 190, 194, 48, 111, 6, 148, 140, 16, 218, 142, 182, 227, 159, 45]
abbrev sd4 : List Nat := [3, 3, 3, 3, 3, 3, 3, 3, 3, 3, 3, 3, 3, 3, 3, 3, 3, 3, 3, 3, 3, 3, 3, 3, 3, 3, 3, 3, 3, 3, 3, 3]
abbrev pk4 : List Nat := [237, 73, 40, 198, 40, 209, 194, 198, 234, 233, 3, 56, 144, 89, 149, 97, 41, 89, 39, 58, 92, 99, 249, 54, 54, 193, 70, 20, 172, 135, 55, 209]
abbrev sd5 : List Nat := [13, 13, 13, 13, 13, 13, 13, 13, 13, 13, 13, 13, 13, 13, 13, 13, 13, 13, 13, 13, 13, 13, 13, 13, 13, 13, 13, 13, 13, 13, 13, 13]
abbrev pk5 : List Nat := [145, 162, 138, 11, 116, 56, 21, 147, 164, 217, 70, 149, 121, 32, 137, 38, 175, 200, 173, 130, 200, 131, 155, 118, 68, 53, 155, 158, 186, 154, 75, 58]
abbrev sd6 : List Nat := [4, 4, 4, 4, 4, 4, 4, 4, 4, 4, 4, 4, 4, 4, 4, 4, 4, 4, 4, 4, 4, 4, 4, 4, 4, 4, 4, 4, 4, 4, 4, 4]
abbrev pk6 : List Nat := [202, 147, 172, 23, 5, 24, 112, 113, 214, 123, 131, 199, 255, 14, 254, 129, 8, 232, 236, 69, 48, 87, 93, 119, 38, 135, 147, 51, 219, 218, 190, 124]
abbrev sd7 : List Nat := [14, 14, 14, 14, 14, 14, 14, 14, 14, 14, 14, 14, 14, 14, 14, 14, 14, 14, 14, 14, 14, 14, 14, 14, 14, 14, 14, 14, 14, 14, 14, 14]
abbrev pk7 : List Nat := [11, 238, 245, 169, 230, 121, 230, 163, 225, 52, 254, 39, 131, 123, 255, 50, 199, 203, 95, 93, 68, 234, 9, 188, 176, 229, 66, 186, 214, 164, 192, 204]
abbrev ta0_0 : List Nat := [2, 0, 0, 0, 0, 0, 0, 0, 2, 0, 0, 0, 0, 0, 0, 0, 0, 0, 0, 0, 0, 0, 0, 0, 1, 58, 185, 34, 32, 84, 201, 20, 146, 209, 216, 92, 5, 85, 92, 163, 24, 82, 153, 231, 183, 243, 163, 192, 137, 94, 10, 232, 77, 17, 190, 225, 238, 4, 231, 103, 130, 210, 33, 155, 209, 34, 157, 145, 237, 150, 46, 104, 251, 43, 172, 41, 100, 125, 197, 221, 191, 236, 40, 109, 19, 211, 121, 100, 90]
abbrev tx0 : List (List Nat) := [ta0_0]
abbrev sg0 : List Nat := [217, 97, 157, 202, 218, 196, 10, 0, 124, 212, 254, 255, 150, 147, 58, 139, 55, 88, 134, 46, 116, 199, 172, 199, 245, 95, 34, 246, 214, 157, 102, 13, 15, 33, 12, 88, 230, 254, 172, 42, 17, 76, 79, 130, 149, 71, 92, 76, 14, 219, 186, 113, 5, 25, 183, 82, 200, 141, 144, 159, 193, 110, 254, 10]
abbrev rr0 : List Nat := [217, 97, 157, 202, 218, 196, 10, 0, 124, 212, 254, 255, 150, 147, 58, 139, 55, 88, 134, 46, 116, 199, 172, 199, 245, 95, 34, 246, 214, 157, 102, 13]
abbrev hw0 : List Nat := [176, 27, 56, 144, 176, 130, 188, 245, 72, 56, 176, 187, 137, 218, 4, 141, 119, 139, 104, 228, 106, 189, 99, 74, 170, 175, 193, 158, 178, 241, 97, 0]
abbrev dt0 : List (List Nat) := [[0], [], []]
abbrev dd0 : List Nat := [184, 36, 77, 2, 137, 129, 214, 147, 175, 123, 69, 106, 248, 239, 164, 202, 214, 61, 40, 46, 25, 255, 20, 148, 44, 36, 110, 80, 217, 53, 29, 34, 112, 74, 128, 42, 113, 195, 88, 11, 99, 112, 222, 76, 235, 41, 60, 50, 74, 132, 35, 52, 37, 87, 212, 229, 195, 132, 56, 240, 227, 105, 16, 238]
abbrev dt1 : List (List Nat) := [[4, 0], [184, 36, 77, 2, 137, 129, 214, 147, 175, 123, 69, 106, 248, 239, 164, 202, 214, 61, 40, 46, 25, 255, 20, 148, 44, 36, 110, 80, 217, 53, 29, 34, 112, 74, 128, 42, 113, 195, 88, 11, 99, 112, 222, 76, 235, 41, 60, 50, 74, 132, 35, 52, 37, 87, 212, 229, 195, 132, 56, 240, 227, 105, 16, 238]]
abbrev dd1 : List Nat := [58, 185, 34, 32, 84, 201, 20, 146, 209, 216, 92, 5, 85, 92, 163, 24, 82, 153, 231, 183, 243, 163, 192, 137, 94, 10, 232, 77, 17, 190, 225, 238, 4, 231, 103, 130, 210, 33, 155, 209, 34, 157, 145, 237, 150, 46, 104, 251, 43, 172, 41, 100, 125, 197, 221, 191, 236, 40, 109, 19, 211, 121, 100, 90]
theorem pub0 : pubF (toB sd0) = toB pk0 := by kernel_rfl
theorem pub3 : pubF (toB sd3) = toB pk3 := by kernel_rfl
theorem pub6 : pubF (toB sd6) = toB pk6 := by kernel_rfl
theorem pub1 : pubF (toB sd1) = toB pk1 := by kernel_rfl
theorem pub4 : pubF (toB sd4) = toB pk4 := by kernel_rfl
theorem pub7 : pubF (toB sd7) = toB pk7 := by kernel_rfl
theorem pub2 : pubF (toB sd2) = toB pk2 := by kernel_rfl
theorem pub5 : pubF (toB sd5) = toB pk5 := by kernel_rfl
theorem mul0 : mulF (numF (drwB (toB sd2) :: tx0.map toB)) = toB rr0 := by kernel_rfl
theorem how0 : numF (toB rr0 :: toB pk2 :: tx0.map toB) = toB hw0 := by kernel_rfl
theorem sig0 : sigF (toB sd2) (tx0.map toB) = toB sg0 := by
  unfold sigF
  rw [mul0, pub2, how0]
  kernel_rfl
theorem dig0 : sha (dt0.map toB).flatten = toB dd0 := by kernel_rfl
theorem dig1 : sha (dt1.map toB).flatten = toB dd1 := by kernel_rfl
noncomputable def pubTab : Tab := [([sd0], pk0), ([sd1], pk1), ([sd2], pk2), ([sd3], pk3), ([sd4], pk4), ([sd5], pk5), ([sd6], pk6), ([sd7], pk7)]
theorem pubTab_ok : PubTab pubTab := fun k r h => by
  simp only [pubTab, List.mem_cons, Prod.mk.injEq, List.mem_nil_iff, or_false] at h
  rcases h with ⟨rfl, rfl⟩ | ⟨rfl, rfl⟩ | ⟨rfl, rfl⟩ | ⟨rfl, rfl⟩ | ⟨rfl, rfl⟩ | ⟨rfl, rfl⟩ | ⟨rfl, rfl⟩ | ⟨rfl, rfl⟩
  · exact ⟨⟨by decide, by decide⟩, _, rfl, rfl, pub0⟩
  · exact ⟨⟨by decide, by decide⟩, _, rfl, rfl, pub1⟩
  · exact ⟨⟨by decide, by decide⟩, _, rfl, rfl, pub2⟩
  · exact ⟨⟨by decide, by decide⟩, _, rfl, rfl, pub3⟩
  · exact ⟨⟨by decide, by decide⟩, _, rfl, rfl, pub4⟩
  · exact ⟨⟨by decide, by decide⟩, _, rfl, rfl, pub5⟩
  · exact ⟨⟨by decide, by decide⟩, _, rfl, rfl, pub6⟩
  · exact ⟨⟨by decide, by decide⟩, _, rfl, rfl, pub7⟩
noncomputable def sigTab : Tab := [(sd2 :: tx0, sg0)]
theorem sigTab_ok : SigTab sigTab := fun k r h => by
  simp only [sigTab, List.mem_cons, Prod.mk.injEq, List.mem_nil_iff, or_false] at h
  obtain ⟨rfl, rfl⟩ := h
  exact ⟨⟨by decide, by decide⟩, _, _, rfl, rfl, ⟨by decide, by decide⟩, sig0⟩
noncomputable def howTab : Tab := [(rr0 :: pk2 :: tx0, hw0)]
theorem howTab_ok : HowTab howTab := fun k r h => by
  simp only [howTab, List.mem_cons, Prod.mk.injEq, List.mem_nil_iff, or_false] at h
  obtain ⟨rfl, rfl⟩ := h
  exact ⟨⟨by decide, by decide⟩, _, _, _, rfl, by decide, by decide, ⟨by decide, by decide⟩, how0⟩
noncomputable def digTab : Tab := [(dt0, dd0), (dt1, dd1)]
theorem digTab_ok : DigTab digTab := fun k r h => by
  simp only [digTab, List.mem_cons, Prod.mk.injEq, List.mem_nil_iff, or_false] at h
  rcases h with ⟨rfl, rfl⟩ | ⟨rfl, rfl⟩
  · exact ⟨⟨by decide, by decide⟩, ⟨by decide, by decide⟩, dig0⟩
  · exact ⟨⟨by decide, by decide⟩, ⟨by decide, by decide⟩, dig1⟩
noncomputable def shTab : ShTab := []
theorem shTab_ok : ShOk shTab := fun k a l h => by
  unfold shTab at h; cases h
theorem GS_GE : ∀ w, GS w → GE w := fun w h => h.ge
theorem x_pow3 (a : F5) : resV (runE 440 [a.v, .int .i64 252, .int .u64 3] ⟨.lf, 0⟩) = some (fpow a 3 252 ⟨1, 0, 0, 0, 0⟩).v := by kernel_rfl
theorem x_pow5 (a : F5) : resV (runE 440 [a.v, .int .i64 253, .int .u64 5] ⟨.lf, 0⟩) = some (fpow a 5 253 ⟨1, 0, 0, 0, 0⟩).v := by kernel_rfl
noncomputable def powQ (f : FuncId) (xs : List XV) : Option XV := br (Nat.beq f 440) (match xs with
  | [x, n, m] => br (sameX n (.int .i64 252)) (br (sameX m (.int .u64 3)) (un5 (fun a => fpow a 3 252 ⟨1, 0, 0, 0, 0⟩) [x]) none) (br (sameX n (.int .i64 253)) (br (sameX m (.int .u64 5)) (un5 (fun a => fpow a 5 253 ⟨1, 0, 0, 0, 0⟩) [x]) none) none)
  | _ => none) none
theorem dry_3 (a : F5) (n m : Int) : DryA [a.v, .int .i64 n, .int .u64 m] := fun _ => rfl
theorem powQ_ok {f : FuncId} {xs : List XV} {y : XV} (hr : powQ f xs = some y) (h : Hp) : QuietOk Tryz.prog GS f xs h y := by
  unfold powQ at hr
  obtain ⟨h1, hr1⟩ := br_some hr
  clear hr
  have := Nat.eq_of_beq_eq_true h1
  subst this
  split at hr1
  · next x n m =>
    cases h2 : sameX n (.int .i64 252) with
    | true =>
      rw [h2, br_t] at hr1
      obtain ⟨h3, hr2⟩ := br_some hr1
      obtain ⟨a, e, rfl⟩ := un5_eq hr2
      cases e
      rw [sameX_eq h2, sameX_eq h3]
      obtain ⟨h', e1⟩ := resV_ex (x_pow3 a)
      exact quiet_dry ((xcalls_ok mixed noD_ok (nE_ok GS_GE) 10).c _ _ _ _ _ e1) (dry_3 a _ _) (dry_F5 _) h
    | false =>
      rw [h2, br_f] at hr1
      obtain ⟨h3, hr2⟩ := br_some hr1
      obtain ⟨h4, hr3⟩ := br_some hr2
      obtain ⟨a, e, rfl⟩ := un5_eq hr3
      cases e
      rw [sameX_eq h3, sameX_eq h4]
      obtain ⟨h', e1⟩ := resV_ex (x_pow5 a)
      exact quiet_dry ((xcalls_ok mixed noD_ok (nE_ok GS_GE) 10).c _ _ _ _ _ e1) (dry_3 a _ _) (dry_F5 _) h
  · cases hr1
noncomputable def baseQ (f : FuncId) (xs : List XV) : Option XV := br (Nat.beq f 205) (match xs with | [] => some (.agg baseP.w) | _ => none) none
noncomputable def qV (f : FuncId) (xs : List XV) (h : Hp) : Option XV := match rightQ f xs h with
  | some r => some r
  | none => (match baseQ f xs with
    | some r => some r
    | none => (match powQ f xs with
      | some r => some r
      | none => fieldQ3 f xs h))
theorem qV_ok {f : FuncId} {xs : List XV} {h : Hp} {y : XV} (hr : qV f xs h = some y) : QuietOk Tryz.prog GS f xs h y := by
  unfold qV at hr
  split at hr
  · next r h1 => cases hr; exact rightQ_ok h1
  · split at hr
    · next r h1 =>
      cases hr
      unfold baseQ at h1
      obtain ⟨h2, h3⟩ := br_some h1
      have := Nat.eq_of_beq_eq_true h2
      subst this
      split at h3
      · cases h3; exact q_Base GS_GE h
      · cases h3
    · split at hr
      · next r h1 => cases hr; exact powQ_ok h1 h
      · exact fieldQ3_ok GS_GE hr
noncomputable def nV : CallsX := ⟨orC pointC (orC (tabC 226 key3 howTab) bitsC), addE, globE, qV, fun _ _ _ => none, fun _ _ _ => none⟩
theorem nV_ok : CallsOk Tryz.prog GS nV := ⟨orC_ok (pointC_ok GS_GE) (orC_ok (howC_ok howTab_ok) bitsC_ok), fun _ _ _ h => addE_ok h, fun _ _ _ h => globE_ok GS_GE h, fun _ _ _ _ h => qV_ok h, fun _ _ _ _ _ h => (by cases h), fun _ _ _ _ _ h => (by cases h)⟩
noncomputable abbrev runV (f : FuncId) (xs : List XV) (h : Hp) : Option (XV × Hp) := (xcalls Tryz.prog noD nV 1000 12).c f xs h
noncomputable def verE (pk sg tx : List Nat) (n : Nat) : Ent := ⟨126, [(none, 0), (none, 1), (none, 2), (some 2, 0)], [.slu 0 0 32 1, .slu 1 0 64 1, .sl (some (2, 0)) 1 1],
  [.row (mapB pk), .row (mapB sg), .cells [.slu 3 0 (len (mapB tx)) 1], .row (mapB tx)], .bool true, [], n⟩
noncomputable def verR (e : Ent) : Bool := (fun r => br (entB e r) (keptB e r) false) (runV e.f e.xs e.heap)
theorem ver_ok {e : Ent} (h : verR e = true) : EntOk Tryz.prog GS e := by
  obtain ⟨h1, h2⟩ := br_and h
  exact ent_of (xcalls_ok mixed noD_ok nV_ok 12) rfl h1 h2
theorem ver1 : verR (verE pk2 sg0 ta0_0 53191) = true := by kernel_rfl
theorem callD_any {P : Program} {f : FuncId} {fn : Func} {c : Code} (hf : P.funcs[f]? = some fn) (hb : fn.body = some c) (args : Array Value) (hl : args.size ≤ fn.ntmps) {u : FrameMode} {w : World} {R : Ending → FrameMode → World → Prop}
    (h : denS P fn.ntmps c (ktSOf P fn R) u [] w) : CallsDIn Fence.wide 0 P f args u w R := by
  refine callsDIn_of_wpSIn hf hb trivial fun c0 cs hu => ?_
  have hs : Sim fn.ntmps [] (args ++ Array.replicate (fn.ntmps - args.size) undef) := ⟨by simp; omega, fun t ht => by cases ht⟩
  have hc0 : c0 = { c0 with mode := u } := by subst hu; rfl
  rw [hc0]
  refine wpSIn_mono (denS_wp (c0 := c0) (cs := cs) c _ u _ _ w hs rfl h) ?_
  intro e a cs' w' hq
  cases e with
  | normal =>
    obtain ⟨hd, u', rfl, env, hs', hk⟩ := hq
    have := retK_post (R := fun e w => R e u' w) hs' hk
    exact ⟨hd, u', rfl, this⟩
  | ret =>
    obtain ⟨hd, u', rfl, env, hs', hk⟩ := hq
    have := retK_post (R := fun e w => R e u' w) hs' hk
    exact ⟨hd, u', rfl, this⟩
  | panic c =>
    obtain ⟨hd, u', rfl, hk⟩ := hq
    exact ⟨hd, u', rfl, hk⟩
  | exit i => exact hq.elim
  | goto l => exact hq.elim
  | outgrown => exact hq.elim
abbrev DQ (f : FuncId) : Prop := ∀ (args : Array Value) (w : World), args.size ≤ 3 → callDK Tryz.prog f args .returning w fun u w' => u = .returning ∧ Mod NoB w w'
theorem dq140 : DQ 140 := fun args w hl => by
  refine callD_any Tryz.func140 (bodyOf_some (by kernel_rfl)) args (Nat.le_trans hl (Nat.le_of_ble_eq_true (by kernel_rfl))) ?_
  exact Exists.intro (.bool false) (And.intro (fun w => rfl) (Exists.intro false (And.intro rfl (And.intro (fun h => by cases h) (And.intro rfl (Mod.refl _ _))))))
theorem dq160 : DQ 160 := fun args w hl => by
  refine callD_any Tryz.func160 (bodyOf_some (by kernel_rfl)) args (Nat.le_trans hl (Nat.le_of_ble_eq_true (by kernel_rfl))) ?_
  exact Exists.intro (.bool false) (And.intro (fun w => rfl) (Exists.intro false (And.intro rfl (And.intro (fun h => by cases h) (And.intro rfl (Mod.refl _ _))))))
theorem dq221 : DQ 221 := fun args w hl => by
  refine callD_any Tryz.func221 (bodyOf_some (by kernel_rfl)) args (Nat.le_trans hl (Nat.le_of_ble_eq_true (by kernel_rfl))) ?_
  exact Exists.intro (.bool false) (And.intro (fun w => rfl) (Exists.intro false (And.intro rfl (And.intro (fun h => by cases h) (And.intro rfl (Mod.refl _ _))))))
theorem dq288 : DQ 288 := fun args w hl => by
  refine callD_any Tryz.func288 (bodyOf_some (by kernel_rfl)) args (Nat.le_trans hl (Nat.le_of_ble_eq_true (by kernel_rfl))) ?_
  exact Exists.intro (.bool false) (And.intro (fun w => rfl) (Exists.intro false (And.intro rfl (And.intro (fun h => by cases h) (And.intro rfl (Mod.refl _ _))))))
theorem dq340 : DQ 340 := fun args w hl => by
  refine callD_any Tryz.func340 (bodyOf_some (by kernel_rfl)) args (Nat.le_trans hl (Nat.le_of_ble_eq_true (by kernel_rfl))) ?_
  exact Exists.intro (.bool false) (And.intro (fun w => rfl) (Exists.intro false (And.intro rfl (And.intro (fun h => by cases h) (And.intro rfl (Mod.refl _ _))))))
theorem dq343 : DQ 343 := fun args w hl => by
  refine callD_any Tryz.func343 (bodyOf_some (by kernel_rfl)) args (Nat.le_trans hl (Nat.le_of_ble_eq_true (by kernel_rfl))) ?_
  exact Exists.intro (.bool false) (And.intro (fun w => rfl) (Exists.intro false (And.intro rfl (And.intro (fun h => by cases h) (And.intro rfl (Mod.refl _ _))))))
theorem dq384 : DQ 384 := fun args w hl => by
  refine callD_any Tryz.func384 (bodyOf_some (by kernel_rfl)) args (Nat.le_trans hl (Nat.le_of_ble_eq_true (by kernel_rfl))) ?_
  exact Exists.intro (.bool false) (And.intro (fun w => rfl) (Exists.intro false (And.intro rfl (And.intro (fun h => by cases h) (And.intro rfl (Mod.refl _ _))))))
theorem dq386 : DQ 386 := fun args w hl => by
  refine callD_any Tryz.func386 (bodyOf_some (by kernel_rfl)) args (Nat.le_trans hl (Nat.le_of_ble_eq_true (by kernel_rfl))) ?_
  exact Exists.intro (.bool false) (And.intro (fun w => rfl) (Exists.intro false (And.intro rfl (And.intro (fun h => by cases h) (And.intro rfl (Mod.refl _ _))))))
theorem dq403 : DQ 403 := fun args w hl => by
  refine callD_any Tryz.func403 (bodyOf_some (by kernel_rfl)) args (Nat.le_trans hl (Nat.le_of_ble_eq_true (by kernel_rfl))) ?_
  exact Exists.intro (.bool false) (And.intro (fun w => rfl) (Exists.intro false (And.intro rfl (And.intro (fun h => by cases h) (And.intro rfl (Mod.refl _ _))))))
theorem dq467 : DQ 467 := fun args w hl => by
  refine callD_any Tryz.func467 (bodyOf_some (by kernel_rfl)) args (Nat.le_trans hl (Nat.le_of_ble_eq_true (by kernel_rfl))) ?_
  exact Exists.intro (.bool false) (And.intro (fun w => rfl) (Exists.intro false (And.intro rfl (And.intro (fun h => by cases h) (And.intro rfl (Mod.refl _ _))))))
theorem dq506 : DQ 506 := fun args w hl => by
  refine callD_any Tryz.func506 (bodyOf_some (by kernel_rfl)) args (Nat.le_trans hl (Nat.le_of_ble_eq_true (by kernel_rfl))) ?_
  exact Exists.intro (.bool false) (And.intro (fun w => rfl) (Exists.intro false (And.intro rfl (And.intro (fun h => by cases h) (And.intro rfl (Mod.refl _ _))))))
theorem dq524 : DQ 524 := fun args w hl => by
  refine callD_any Tryz.func524 (bodyOf_some (by kernel_rfl)) args (Nat.le_trans hl (Nat.le_of_ble_eq_true (by kernel_rfl))) ?_
  exact Exists.intro (.bool false) (And.intro (fun w => rfl) (Exists.intro false (And.intro rfl (And.intro (fun h => by cases h) (And.intro rfl (Mod.refl _ _))))))
theorem dq553 : DQ 553 := fun args w hl => by
  refine callD_any Tryz.func553 (bodyOf_some (by kernel_rfl)) args (Nat.le_trans hl (Nat.le_of_ble_eq_true (by kernel_rfl))) ?_
  exact Exists.intro (.bool false) (And.intro (fun w => rfl) (Exists.intro false (And.intro rfl (And.intro (fun h => by cases h) (And.intro rfl (Mod.refl _ _))))))
theorem dq598 : DQ 598 := fun args w hl => by
  refine callD_any Tryz.func598 (bodyOf_some (by kernel_rfl)) args (Nat.le_trans hl (Nat.le_of_ble_eq_true (by kernel_rfl))) ?_
  exact Exists.intro (.bool false) (And.intro (fun w => rfl) (Exists.intro false (And.intro rfl (And.intro (fun h => by cases h) (And.intro rfl (Mod.refl _ _))))))
noncomputable def anyF (f : FuncId) (l : List Nat) : Bool := List.rec (motive := fun _ => Bool) false (fun a _ ih => X.br (Nat.beq f a) true ih) l
theorem anyF_mem {f : FuncId} : ∀ {l : List Nat}, anyF f l = true → f ∈ l
  | [], h => by cases h
  | a :: l, h => by
    have h : X.br (Nat.beq f a) true (anyF f l) = true := h
    cases h1 : Nat.beq f a with
    | true => rw [Nat.eq_of_beq_eq_true h1]; exact List.mem_cons_self
    | false => rw [h1, br_f] at h; exact List.mem_cons_of_mem _ (anyF_mem h)
noncomputable def dF (f : FuncId) : Bool := anyF f [140, 160, 221, 288, 340, 343, 384, 386, 403, 467, 506, 524, 553, 598]
theorem dF_ok : DefFn Tryz.prog dF := fun f hf => by
  have h := anyF_mem hf
  simp only [List.mem_cons, List.mem_nil_iff, or_false] at h
  rcases h with rfl | rfl | rfl | rfl | rfl | rfl | rfl | rfl | rfl | rfl | rfl | rfl | rfl | rfl
  · exact ⟨by kernel_rfl, dq140⟩
  · exact ⟨by kernel_rfl, dq160⟩
  · exact ⟨by kernel_rfl, dq221⟩
  · exact ⟨by kernel_rfl, dq288⟩
  · exact ⟨by kernel_rfl, dq340⟩
  · exact ⟨by kernel_rfl, dq343⟩
  · exact ⟨by kernel_rfl, dq384⟩
  · exact ⟨by kernel_rfl, dq386⟩
  · exact ⟨by kernel_rfl, dq403⟩
  · exact ⟨by kernel_rfl, dq467⟩
  · exact ⟨by kernel_rfl, dq506⟩
  · exact ⟨by kernel_rfl, dq524⟩
  · exact ⟨by kernel_rfl, dq553⟩
  · exact ⟨by kernel_rfl, dq598⟩
end Go.Proofs.YtgemgaofamloeaaGreatDoor
end
section
namespace Go.Proofs.YtgemgaofamloeaaGreatDoor
open Go Go.Sh
def sh219 (s : List UInt8) (w : World) (R : Ending → World → Prop) : Prop :=
  callK Tryz.prog 355 [.string ⟨s.toArray⟩] w (panR R) fun v w1 => ∃ x : List UInt8, v = (.string ⟨x.toArray⟩) ∧ R (.returned (.string ⟨x.toArray⟩)) w1
theorem call219 (s : List UInt8) {w : World} {R : Ending → World → Prop} (hden : sh219 s w R) : Calls Tryz.prog 219 #[.string ⟨s.toArray⟩] w R :=
  calls_of_form (.seq none .z (.seq none .z .z)) Tryz.func219 (by kernel_rfl) [.s s] (by kernel_rfl) (by kernel_rfl) hden
def sh355 (s : List UInt8) (w : World) (R : Ending → World → Prop) : Prop :=
  condK ((s.length : Int) == (0 : Int)) (R (.returned (.string ⟨([]).toArray⟩)) w) (semK Tryz.prog (Instr.makeSlice 22 (.int .i64 (s.length : Int)) (.int .i64 (s.length : Int))) w fun v w1 => ∃ x : Slc, v = (.slice x.a x.len x.cap) ∧ semK Tryz.prog (Builtin.copy_ #[22, 9] 3 #[.slice x.a x.len x.cap, .string ⟨s.toArray⟩]) w1 fun v1 w2 => ∃ x1 : Int, v1 = (.int .i64 x1) ∧ ((0 ≤ (0 : Int) ∧ (0 : Int) < (x.len : Nat)) ∧ onSome x.a fun a => semK Tryz.prog (Builtin.unsafeString_ #[471, 3] 9 #[.pointer (some (a.add (((0 : Int)).toNat * 1))), .int .i64 (x.len : Int)]) w2 fun v2 w3 => ∃ x2 : List UInt8, v2 = (.string ⟨x2.toArray⟩) ∧ R (.returned (.string ⟨x2.toArray⟩)) w3))
theorem call355 (s : List UInt8) {w : World} {R : Ending → World → Prop} (hden : sh355 s w R) : Calls Tryz.prog 355 #[.string ⟨s.toArray⟩] w R :=
  calls_of_form (.seq none .z (.seq none (.seq none .z (.cond (.seq none .z .z) .z)) (.seq none .z (.seq none .z (.seq none .z .z))))) Tryz.func355 (by kernel_rfl) [.s s] (by kernel_rfl) (by kernel_rfl) hden
end Go.Proofs.YtgemgaofamloeaaGreatDoor
end
section
namespace Go.Proofs.YtgemgaofamloeaaGreatDoor
open Go Go.Sh Go.X
section
variable {w : World}
theorem sem_copyStr {t t2 ty : TypeId} {K : Value → World → Prop} (ht : Tryz.prog.underlying t = some (.slice 5)) {b : Nat} {l : List Value} {T : TypeId} {s : List UInt8} (hb : Blk w b l T) (hl : l.length = s.length)
    (hK : ∀ w', Blk w' b (bys s) T → Mod (fun y => y = b) w w' → w'.heap.size = w.heap.size → K (.int .i64 s.length) w') :
    semK Tryz.prog (Builtin.copy_ #[t, t2] ty #[.slice (some ⟨b, 0, none⟩) s.length s.length, .string ⟨s.toArray⟩]) w K := by
  obtain ⟨i5', h51, h52, h53, h54⟩ := i5
  obtain ⟨w', hst, hb', ht'⟩ := store_blk (P := Tryz.prog) (o := 0) (vs := bys s) hb (by simp; omega) (bys_one _)
  have e : putAt l 0 (bys s) = bys s := by
    simp only [putAt, List.take_zero, List.nil_append]
    rw [List.drop_eq_nil_of_le (by simp; omega), List.append_nil]
  rw [e] at hb'
  have hmin : Nat.min s.length s.length = s.length := Nat.min_self _
  refine ⟨_, _, ?_, hK _ hb' ht'.mod ht'.size⟩
  have hex : (ByteArray.extract ⟨s.toArray⟩ 0 s.length).data.map (fun b => Value.int .u8 b.toNat) = (bys s).toArray := by
    have : (ByteArray.extract ⟨s.toArray⟩ 0 s.length).data = s.toArray := by
      rw [ByteArray.data_extract]
      simp
    rw [this]; simp [bys]
  unfold Builtin.copy_
  simp only [List.getElem?_toArray, List.getElem?_cons_zero, List.getElem?_cons_succ, run_underlying ht, Sem.run_bind, Sem.run_pure, Result.andThen_ok, Builtin.lenOf, Builtin.firstCells, goInt, Go.Sh.run_sizeOf h51]
  have hsz : (ByteArray.mk s.toArray).size = s.length := by simp [ByteArray.size]
  simp only [hsz, hmin, hex, hst, Result.andThen_ok]
theorem c_sclone {s : List UInt8} (hn : s.length ≤ 1000000000) : Calls Tryz.prog 219 #[.string ⟨s.toArray⟩] w (Ret fun v w' => v = .string ⟨s.toArray⟩ ∧ Mod NoB w w') := by
  refine call219 _ ?_
  unfold sh219
  have hc : Calls Tryz.prog 355 #[.string ⟨s.toArray⟩] w (Ret fun v w' => v = .string ⟨s.toArray⟩ ∧ Mod NoB w w') := by
    refine call355 _ ?_
    unfold sh355
    obtain ⟨i5', h51, h52, h53, h54⟩ := i5
    refine condK_i (fun h => ?_) fun h => ?_
    · have : s = [] := List.eq_nil_of_length_eq_zero (by have := h; simp at this; simp [this])
      subst this
      exact ⟨rfl, Mod.refl _ _⟩
    · have h0 : s ≠ [] := by rintro rfl; simp at h
      have hp : 0 < s.length := List.length_pos_iff.2 h0
      refine sem_makeSlice (l := s.length) (c := s.length) u26 h51 h52 h53 rfl h54 rfl rfl (by omega) (by omega) (by omega) fun b w1 hN1 hb1 ho1 => ⟨⟨some ⟨b, 0, none⟩, s.length, s.length⟩, rfl, ?_⟩
      have hat := hN1.at_
      refine sem_copyStr u26 hb1 (by simp) fun w2 hb2 hm2 hs2 => ⟨_, rfl, ⟨by omega, by show (0 : Int) < ((s.length : Nat) : Int); omega⟩, ?_⟩
      show semK _ _ _ _
      refine ⟨_, _, Lib.run_unsafeString_row _ 471 3 9 5 uPB (by kernel_rfl) b (bys s).length (shape_of hb2) s h0 (by simp) (by omega) (fun j x hj => ?_), s, rfl, rfl, ?_⟩
      · rw [addl, Nat.zero_add, hb2.cell]
        simp [bys, hj]
      · exact (hN1.mod.fresh hm2 fun x e => by omega).fresh (freeze_tch hb2) fun x e => by omega
  refine callK_ret hc ?_
  rintro v w1 ⟨rfl, hm⟩
  exact ⟨_, rfl, rfl, hm⟩
end
noncomputable def cloneQ (f : FuncId) (xs : List XV) : Option XV := X.br (Nat.beq f 219) (match xs with
  | [.str l] => X.br (Nat.ble (len l) 1000) (some (.str l)) none
  | _ => none) none
theorem cloneQ_ok {f : FuncId} {xs : List XV} {y : XV} (hr : cloneQ f xs = some y) (h : Hp) : QuietOk Tryz.prog GS f xs h y := by
  unfold cloneQ at hr
  obtain ⟨h1, hr1⟩ := br_some hr
  clear hr
  have := Nat.eq_of_beq_eq_true h1
  subst this
  split at hr1
  · next l =>
    obtain ⟨h2, hr2⟩ := br_some hr1
    cases hr2
    have h2 := Nat.le_of_ble_eq_true h2
    rw [len_eq] at h2
    intro S0 w0 ρ w vs hG hi hx
    simp only [XRs] at hx
    obtain ⟨v, vs', rfl, h4, rfl⟩ := hx
    simp only [XR] at h4
    obtain ⟨h5, rfl⟩ := h4
    refine Calls.mono (c_sclone (s := l.map UInt8.ofNat) (by simp; omega)) fun e w' he => ?_
    cases e <;> first | exact he.elim | skip
    obtain ⟨rfl, hm⟩ := he
    exact ⟨_, rfl, by simp only [XR]; exact ⟨h5, rfl⟩, hi.no hm⟩
  · cases hr1
noncomputable def cloneX (f : FuncId) (xs : List XV) (h : Hp) : Option (XV × Hp) := br (Nat.beq f 183) (match xs with
  | [.ifc t (.map (some L))] => onO (mapAt h L) fun q => some (.ifc t (.map (some h.n)), ⟨h.t.set (some (.map q.1 q.2)) h.n, Nat.succ h.n⟩)
  | _ => none) none
theorem run_clone (es : Array MapEntry) (c r : Nat) (t : TypeId) (w : World) (hb : w.heap[r]? = some (.map es c)) : (callFunc (183 : Nat) #[.iface t (.map (some r))]).run Tryz.prog w = .ok (.value (.iface t (.map (some w.heap.size)))) (w.alloc (.map es c)) := by
  rw [run_callFunc_extern Tryz.func183 (by kernel_rfl) (by kernel_rfl) (by kernel_rfl) (e := Extern.MapsClone.clone) (by kernel_rfl)]
  have e : Extern.MapsClone.clone #[.iface t (.map (some r))] = (getObj r >>= fun o => match o with
      | .map entries clock => (newObj (.map entries clock) >>= fun n => pure (.iface t (.map (some n))))
      | _ => stuck "maps.clone: a map expected") := rfl
  have g1 : (getObj r).run Tryz.prog w = .ok (.map es c) w := by simp [getObj, Sem.run, hb]
  rw [e]
  simp only [Sem.run_bind, g1, Result.andThen_ok, run_newObj_alloc, Sem.run_pure]
theorem cloneX_ok {f : FuncId} {xs : List XV} {h h' : Hp} {y : XV} (hr : cloneX f xs h = some (y, h')) : ExtHOk Tryz.prog f xs h y h' := by
  intro S0 w0 ρ w vs hi hxs
  unfold cloneX at hr
  have hq := br_some hr
  clear hr
  obtain ⟨h1, hr⟩ := hq
  have h1 := Nat.eq_of_beq_eq_true h1
  subst h1
  split at hr
  · next t L =>
    obtain ⟨⟨es, c⟩, h2, hr⟩ := onO_some hr
    cases hr
    obtain ⟨b, s, ms, q1, q2, q3, q4⟩ := hi.map h2
    simp only [XRs, XR] at hxs
    obtain ⟨v, vs', rfl, ⟨u, ⟨b', s', e1, rfl⟩, rfl⟩, rfl⟩ := hxs
    rw [q2] at e1; cases e1
    obtain ⟨g1, g2⟩ := hi.new (o := .map es c) (b := w.heap.size) (s := 0) rfl (alloc_mod w (.map ms.toArray c)) ⟨ms, ERs.le (le_new hi _ _) _ _ q3, heap_alloc_new w _⟩
    have hrun := run_clone ms.toArray c b t w q4
    refine ⟨.iface t (.map (some w.heap.size)), w.alloc (.map ms.toArray c), _, ?_, Lab.up_new g2, ?_, g1⟩
    · exact hrun
    · simp only [XR]
      exact ⟨_, ⟨w.heap.size, 0, by rw [if_pos trivial], rfl⟩, rfl⟩
  · cases hr
noncomputable def qA (f : FuncId) (xs : List XV) (h : Hp) : Option XV := match cloneQ f xs with
  | some r => some r
  | none => shQ shTab f xs
theorem qA_ok {f : FuncId} {xs : List XV} {h : Hp} {y : XV} (hr : qA f xs h = some y) : QuietOk Tryz.prog GS f xs h y := by
  unfold qA at hr
  split at hr
  · next r h1 => cases hr; exact cloneQ_ok h1 h
  · exact shQ_ok shTab_ok hr h
noncomputable def nA : CallsX := ⟨orC (tabC 45 key1 pubTab) (orC (tabC 210 key2 sigTab) (orC (tabC 203 keyR digTab) (entsC [verE pk2 sg0 ta0_0 53191]))), cmpE, globE, qA, fun _ _ _ => none, cloneX⟩
theorem nA_ok : CallsOk Tryz.prog GS nA := ⟨orC_ok (pubC_ok pubTab_ok) (orC_ok (sigC_ok sigTab_ok) (orC_ok (digC_ok digTab_ok) fun f xs h y h' => entsC_ok fun e he => by
  simp only [List.mem_cons, List.mem_nil_iff, or_false] at he
  subst he
  exact ver_ok ver1)), fun _ _ _ h => cmpE_ok h, fun _ _ _ h => globE_ok GS_GE h, fun _ _ _ _ hr => qA_ok hr, fun _ _ _ _ _ h => (by cases h), fun _ _ _ _ _ h => cloneX_ok h⟩
noncomputable abbrev runA (f : FuncId) (xs : List XV) (h : Hp) : Option (XV × Hp) := (xcalls Tryz.prog dF nA 1000 60).c f xs h
end Go.Proofs.YtgemgaofamloeaaGreatDoor
end
section
namespace Go.Proofs.YtgemgaofamloeaaGreatDoor
open Go Go.Sh
def sh15 (r : Option Addr) (w : World) (R : Ending → World → Prop) : Prop :=
  pureSem Tryz.prog (do eqGuard .neq 26 (.tmp 3) (.const (.pointer none)) (.pointer r) (.pointer none); binOp .neq 26 (.pointer r) (.pointer none)) fun v => ∃ x : Bool, v = (.bool x) ∧ condK x (onSome r fun a => ∃ x1 : Option Addr, Rd w ((a.add 0).add 0) [.pointer x1] ∧ pureSem Tryz.prog (do eqGuard .neq 27 (.tmp 10) (.const (.pointer none)) (.pointer x1) (.pointer none); binOp .neq 27 (.pointer x1) (.pointer none)) fun v1 => ∃ x2 : Bool, v1 = (.bool x2) ∧ R (.returned (.bool x2)) w) (R (.returned (.bool false)) w)
theorem call15 (r : Option Addr) {w : World} {R : Ending → World → Prop} (hden : sh15 r w R) : Calls Tryz.prog 15 #[.pointer r] w R :=
  calls_of_form (.seq none .z (.seq none .z .z)) Tryz.func15 (by kernel_rfl) [.p r] (by kernel_rfl) (by kernel_rfl) hden
def sh5 (r : Option Addr) (pa pb : Int) (pc : Slc) (w : World) (R : Ending → World → Prop) : Prop :=
  semK Tryz.prog (Instr.box 24 (.agg #[.int .i64 pa, .int .i64 pb, .slice pc.a pc.len pc.cap])) w fun v w1 => ∃ p : Option Addr, v = (.pointer p) ∧ ∃ j : List TV → World → Prop, (callK Tryz.prog 15 [.pointer r] w1 (panR R) fun v1 w2 => ∃ x : Bool, v1 = (.bool x) ∧ condK x (onSome p fun a => ∃ x1 : Int, Rd w2 (a.add 0) [.int .i64 x1] ∧ condK (decide (x1 ≥ (11 : Int))) (onSome p fun a1 => ∃ x2 : Int, Rd w2 (a1.add 0) [.int .i64 x2] ∧ j [.b (decide (x2 ≤ (18 : Int)))] w2) (j [.b false] w2)) (j [.b false] w2)) ∧ (∀ client : Bool, ∀ w3 : World, j [.b client] w3 → ∃ j1 : List TV → World → Prop, (∃ sx : World → Prop, sx w3.drew ∧ ((callK Tryz.prog 15 [.pointer r] w3.drew (panR R) fun v2 w4 => ∃ x3 : Bool, v2 = (.bool x3) ∧ (sx w4 ∧ condK (!x3) ((((sx w4 ∧ (((sx w4 ∧ j1 [.b true] w4)) ∧ True))) ∧ True)) (onSome p fun a2 => onSome r fun a3 => ∃ x4 : Int, (∀ w', sx w' → Rd w' (a2.add 1) [.int .i64 x4]) ∧ ∃ x5 : Int, (∀ w', sx w' → Rd w' ((a3.add 8).add 0) [.int .i64 x5]) ∧ condK (x4 != x5) ((((sx w4 ∧ (((sx w4 ∧ j1 [.b true] w4)) ∧ True))) ∧ True)) (condK (!client) (onSome p fun a4 => ∃ x6 : Int, (∀ w', sx w' → Rd w' (a4.add 0) [.int .i64 x6]) ∧ ((callK Tryz.prog 16 [.pointer r, .int .i64 x6] w4 (panR R) fun v3 w5 => ∃ x7 : Bool, v3 = (.bool x7) ∧ (sx w5 ∧ condK (!x7) ((((sx w5 ∧ j1 [.b true] w5)) ∧ True)) (onSome r fun a5 => onSome p fun a6 => ∃ x8 : Option Addr, (∀ w', sx w' → Rd w' ((a5.add 1).add 0) [.pointer x8]) ∧ ∃ x9 : Int, (∀ w', sx w' → Rd w' (a6.add 0) [.int .i64 x9]) ∧ ((callK Tryz.prog 17 [.pointer x8, .int .i64 x9] w5 (panR R) fun v4 w6 => ∃ x10 : Bool, v4 = (.bool x10) ∧ (sx w6 ∧ j1 [.b (!x10)] w6)) ∧ True)))) ∧ True)) ((((sx w4 ∧ onSome r fun a7 => onSome p fun a8 => ∃ x11 : Option Addr, (∀ w', sx w' → Rd w' ((a7.add 1).add 0) [.pointer x11]) ∧ ∃ x12 : Int, (∀ w', sx w' → Rd w' (a8.add 0) [.int .i64 x12]) ∧ ((callK Tryz.prog 17 [.pointer x11, .int .i64 x12] w4 (panR R) fun v5 w7 => ∃ x13 : Bool, v5 = (.bool x13) ∧ (sx w7 ∧ j1 [.b (!x13)] w7)) ∧ True))) ∧ True)))))) ∧ True)) ∧ (∀ x14 : Bool, ∀ w8 : World, j1 [.b x14] w8 → condK x14 (R (.returned (.slice none 0 0)) w8) (semK Tryz.prog (Instr.makeMap 68 none) w8 fun v6 w9 => ∃ x15 : Option Nat, v6 = (.map x15) ∧ semU Tryz.prog (Instr.mapUpdate 68 (.map x15) (.int .u8 ((1 : UInt8)).toNat) (.func (.func 18) #[.pointer r] #[])) w9 fun w10 => semU Tryz.prog (Instr.mapUpdate 68 (.map x15) (.int .u8 ((2 : UInt8)).toNat) (.func (.func 19) #[.pointer r] #[])) w10 fun w11 => semU Tryz.prog (Instr.mapUpdate 68 (.map x15) (.int .u8 ((3 : UInt8)).toNat) (.func (.func 20) #[.pointer r] #[])) w11 fun w12 => semU Tryz.prog (Instr.mapUpdate 68 (.map x15) (.int .u8 ((4 : UInt8)).toNat) (.func (.func 21) #[.pointer r] #[])) w12 fun w13 => semU Tryz.prog (Instr.mapUpdate 68 (.map x15) (.int .u8 ((6 : UInt8)).toNat) (.func (.func 22) #[.pointer r] #[])) w13 fun w14 => semU Tryz.prog (Instr.mapUpdate 68 (.map x15) (.int .u8 ((9 : UInt8)).toNat) (.func (.func 23) #[.pointer r] #[])) w14 fun w15 => ∃ j2 : List TV → World → Prop, (condK client (semK Tryz.prog (Instr.makeMap 68 none) w15 fun v7 w16 => ∃ x16 : Option Nat, v7 = (.map x16) ∧ semU Tryz.prog (Instr.mapUpdate 68 (.map x16) (.int .u8 ((5 : UInt8)).toNat) (.func (.func 24) #[.pointer r] #[])) w16 fun w17 => semU Tryz.prog (Instr.mapUpdate 68 (.map x16) (.int .u8 ((7 : UInt8)).toNat) (.func (.func 25) #[.pointer r] #[])) w17 fun w18 => j2 [.m x16] w18) (j2 [.m x15] w15)) ∧ (∀ does : Option Nat, ∀ w19 : World, j2 [.m does] w19 → onSome p fun a9 => ∃ x17 : Slc, Rd w19 (a9.add 2) [.slice x17.a x17.len x17.cap] ∧ callK Tryz.prog 26 [.slice x17.a x17.len x17.cap] w19 (panR R) fun v8 w20 => ∃ xaa : UInt8, ∃ xab xac : Int, ∃ xad xae : List UInt8, ∃ xafa xafb xafc : Int, ∃ xafd xafe xag xaha xahb : Slc, ∃ xaia : UInt8, ∃ xaib xaic xaid xaj : Slc, ∃ xakaa xakab xakac : Int, ∃ xakad xakae : Slc, ∃ xakba xakbb xakbc : Int, ∃ xakbd xakbe : Slc, ∃ xal xb : Int, v8 = (.tuple #[.agg #[.int .u8 xaa.toNat, .int .i64 xab, .int .i64 xac, .string ⟨xad.toArray⟩, .string ⟨xae.toArray⟩, .int .i64 xafa, .int .i64 xafb, .int .i64 xafc, .slice xafd.a xafd.len xafd.cap, .slice xafe.a xafe.len xafe.cap, .slice xag.a xag.len xag.cap, .slice xaha.a xaha.len xaha.cap, .slice xahb.a xahb.len xahb.cap, .int .u8 xaia.toNat, .slice xaib.a xaib.len xaib.cap, .slice xaic.a xaic.len xaic.cap, .slice xaid.a xaid.len xaid.cap, .slice xaj.a xaj.len xaj.cap, .int .i64 xakaa, .int .i64 xakab, .int .i64 xakac, .slice xakad.a xakad.len xakad.cap, .slice xakae.a xakae.len xakae.cap, .int .i64 xakba, .int .i64 xakbb, .int .i64 xakbc, .slice xakbd.a xakbd.len xakbd.cap, .slice xakbe.a xakbe.len xakbe.cap, .int .i64 xal], .int .i64 xb]) ∧ semK Tryz.prog (Instr.alloc 80 true (.tuple #[])) w20 fun v9 w21 => ∃ f : Option Addr, v9 = (.pointer f) ∧ onSome f fun a10 => semU Tryz.prog (storeVar 80 a10 (.agg #[.int .u8 xaa.toNat, .int .i64 xab, .int .i64 xac, .string ⟨xad.toArray⟩, .string ⟨xae.toArray⟩, .int .i64 xafa, .int .i64 xafb, .int .i64 xafc, .slice xafd.a xafd.len xafd.cap, .slice xafe.a xafe.len xafe.cap, .slice xag.a xag.len xag.cap, .slice xaha.a xaha.len xaha.cap, .slice xahb.a xahb.len xahb.cap, .int .u8 xaia.toNat, .slice xaib.a xaib.len xaib.cap, .slice xaic.a xaic.len xaic.cap, .slice xaid.a xaid.len xaid.cap, .slice xaj.a xaj.len xaj.cap, .int .i64 xakaa, .int .i64 xakab, .int .i64 xakac, .slice xakad.a xakad.len xakad.cap, .slice xakae.a xakae.len xakae.cap, .int .i64 xakba, .int .i64 xakbb, .int .i64 xakbc, .slice xakbd.a xakbd.len xakbd.cap, .slice xakbe.a xakbe.len xakbe.cap, .int .i64 xal])) w21 fun w22 => onSome f fun a11 => ∃ x18 : UInt8, Rd w22 (a11.add 0) [.int .u8 x18.toNat] ∧ semK Tryz.prog (Instr.lookup 68 (.map does) (.int .u8 x18.toNat) true) w22 fun v10 w23 => ∃ xa : Value, ∃ xb1 : Bool, v10 = (.tuple #[xa, .bool xb1]) ∧ ∃ j3 : List TV → World → Prop, (∃ j4 : List TV → World → Prop, (condK (xb != (0 : Int)) (j4 [.b true] w23) (condK (!xb1) (j4 [.b true] w23) (onSome p fun a12 => ∃ x19 : Int, Rd w23 (a12.add 0) [.int .i64 x19] ∧ onSome f fun a13 => ∃ xa1 : UInt8, ∃ xb2 xc : Int, ∃ xd xe : List UInt8, ∃ xfa xfb xfc : Int, ∃ xfd xfe xg xha xhb : Slc, ∃ xia : UInt8, ∃ xib xic xid xj : Slc, ∃ xkaa xkab xkac : Int, ∃ xkad xkae : Slc, ∃ xkba xkbb xkbc : Int, ∃ xkbd xkbe : Slc, ∃ xl : Int, Rd w23 a13 [.int .u8 xa1.toNat, .int .i64 xb2, .int .i64 xc, .string ⟨xd.toArray⟩, .string ⟨xe.toArray⟩, .int .i64 xfa, .int .i64 xfb, .int .i64 xfc, .slice xfd.a xfd.len xfd.cap, .slice xfe.a xfe.len xfe.cap, .slice xg.a xg.len xg.cap, .slice xha.a xha.len xha.cap, .slice xhb.a xhb.len xhb.cap, .int .u8 xia.toNat, .slice xib.a xib.len xib.cap, .slice xic.a xic.len xic.cap, .slice xid.a xid.len xid.cap, .slice xj.a xj.len xj.cap, .int .i64 xkaa, .int .i64 xkab, .int .i64 xkac, .slice xkad.a xkad.len xkad.cap, .slice xkae.a xkae.len xkae.cap, .int .i64 xkba, .int .i64 xkbb, .int .i64 xkbc, .slice xkbd.a xkbd.len xkbd.cap, .slice xkbe.a xkbe.len xkbe.cap, .int .i64 xl] ∧ callFV Tryz.prog xa [.int .i64 x19, .agg #[.int .u8 xa1.toNat, .int .i64 xb2, .int .i64 xc, .string ⟨xd.toArray⟩, .string ⟨xe.toArray⟩, .int .i64 xfa, .int .i64 xfb, .int .i64 xfc, .slice xfd.a xfd.len xfd.cap, .slice xfe.a xfe.len xfe.cap, .slice xg.a xg.len xg.cap, .slice xha.a xha.len xha.cap, .slice xhb.a xhb.len xhb.cap, .int .u8 xia.toNat, .slice xib.a xib.len xib.cap, .slice xic.a xic.len xic.cap, .slice xid.a xid.len xid.cap, .slice xj.a xj.len xj.cap, .int .i64 xkaa, .int .i64 xkab, .int .i64 xkac, .slice xkad.a xkad.len xkad.cap, .slice xkae.a xkae.len xkae.cap, .int .i64 xkba, .int .i64 xkbb, .int .i64 xkbc, .slice xkbd.a xkbd.len xkbd.cap, .slice xkbe.a xkbe.len xkbe.cap, .int .i64 xl]] w23 (panR R) fun v11 w24 => ∃ x20 : Bool, v11 = (.bool x20) ∧ j4 [.b (!x20)] w24))) ∧ (∀ x21 : Bool, ∀ w25 : World, j4 [.b x21] w25 → condK x21 (∃ sx1 : World → Prop, sx1 w25.drew ∧ onSome r fun a14 => onSome p fun a15 => ∃ x22 : Option Addr, (∀ w', sx1 w' → Rd w' ((a14.add 1).add 0) [.pointer x22]) ∧ ∃ x23 : Int, (∀ w', sx1 w' → Rd w' (a15.add 0) [.int .i64 x23]) ∧ ((callK Tryz.prog 27 [.pointer x22, .int .i64 x23] w25.drew (panR R) fun v12 w26 => v12 = (.tuple #[]) ∧ j3 [] w26) ∧ True)) (j3 [] w25))) ∧ (∀ w27 : World, j3 [] w27 → onSome r fun a16 => callK Tryz.prog 28 [.pointer (some (a16.add 1))] w27 (panR R) fun v13 w28 => ∃ x24 : Slc, v13 = (.slice x24.a x24.len x24.cap) ∧ R (.returned (.slice x24.a x24.len x24.cap)) w28)))))
theorem call5 (r : Option Addr) (pa pb : Int) (pc : Slc) {w : World} {R : Ending → World → Prop} (hden : sh5 r pa pb pc w R) : Calls Tryz.prog 5 #[.pointer r, .agg #[.int .i64 pa, .int .i64 pb, .slice pc.a pc.len pc.cap]] w R :=
  calls_of_form (.seq none .z (.seq (some [(5, .b)]) .z (.seq none (.seq (some [(57, .b)]) (.draw 1 (.take 0 (.all [(1, (.take 2 (.take 3 (.take 4 (.take 6 (.take 7 (.take 8 (.take 9 (.take 5 (.take 10 (.take 11 (.take 12 (.take 13 (.take 14 (.take 15 (.take 16 (.take 17 (.take 18 (.take 19 (.all [(20, (.take 21 (.take 22 (.take 23 (.take 24 (.take 25 (.take 26 (.take 27 (.take 28 (.take 30 (.take 29 (.take 31 (.all [(32, (.take 33 (.take 34 .done)))])))))))))))))]))))))))))))))))))))]))) (.cond (.seq none .z .z) .z)) (.seq none .z (.seq (some [(6, .m)]) (.seq none .z (.cond .z .z)) (.seq none .z (.seq none .z (.seq (some []) (.seq (some [(105, .b)]) .z (.cond (.draw 1 (.take 0 (.take 1 (.take 2 (.take 3 (.take 5 (.take 4 (.take 6 (.all [(7, .done)]))))))))) .z)) (.seq none .z .z))))))))) Tryz.func5 (by kernel_rfl) [.p r, .agg [.i .i64 pa, .i .i64 pb, .sl pc]] (by kernel_rfl) (by kernel_rfl) hden
def sh6 (r : Option Addr) (peer shard : Int) (w : World) (R : Ending → World → Prop) : Prop :=
  ∃ j : List TV → World → Prop, (callK Tryz.prog 15 [.pointer r] w (panR R) fun v w1 => ∃ x : Bool, v = (.bool x) ∧ condK (!x) (j [.b true] w1) (callK Tryz.prog 16 [.pointer r, .int .i64 peer] w1 (panR R) fun v1 w2 => ∃ x1 : Bool, v1 = (.bool x1) ∧ condK (!x1) (j [.b true] w2) (onSome r fun a => ∃ x2 : Int, Rd w2 ((a.add 1).add 4) [.int .i64 x2] ∧ j [.b (decide (x2 > (1073741824 : Int)))] w2))) ∧ (∀ x3 : Bool, ∀ w3 : World, j [.b x3] w3 → condK x3 (R (.returned (.slice none 0 0)) w3) (∃ sx : World → Prop, sx w3.drew ∧ onSome r fun a1 => onSome r fun a2 => ∃ x4 : Option Addr, (∀ w', sx w' → Rd w' ((a1.add 0).add 0) [.pointer x4]) ∧ ∃ x5 : Int, (∀ w', sx w' → Rd w' ((a2.add 1).add 4) [.int .i64 x5]) ∧ ((callK Tryz.prog 30 [.pointer x4, .int .i64 shard] w3.drew (panR R) fun v2 w4 => ∃ x6 : Option Addr, v2 = (.pointer x6) ∧ (sx w4 ∧ ((callK Tryz.prog 29 [.pointer x6, .int .i64 peer, .int .i64 x5] w4 (panR R) fun v3 w5 => ∃ x7 : Option Addr, v3 = (.pointer x7) ∧ (sx w5 ∧ pureSem Tryz.prog (do eqGuard .eql 85 (.tmp 39) (.const (.pointer none)) (.pointer x7) (.pointer none); binOp .eql 85 (.pointer x7) (.pointer none)) fun v4 => ∃ x8 : Bool, v4 = (.bool x8) ∧ condK x8 (R (.returned (.slice none 0 0)) w5) (∃ sx1 : World → Prop, sx1 w5.drew ∧ onSome r fun a3 => onSome r fun a4 => ∃ x9 : Option Nat, (∀ w', sx1 w' → Rd w' ((a3.add 1).add 1) [.map x9]) ∧ ∃ x10 : Int, (∀ w', sx1 w' → Rd w' ((a4.add 1).add 4) [.int .i64 x10]) ∧ ((semU Tryz.prog (Instr.mapUpdate 31 (.map x9) (.agg #[.int .i64 peer, .int .i64 shard]) (.agg #[.pointer x7, .int .i64 x10])) w5.drew fun w6 => onSome r fun a5 => ∃ x11 : Int, Rd w6 ((a5.add 1).add 4) [.int .i64 x11] ∧ semK Tryz.prog (Instr.buildSlice 184 1 #[(0, (.agg #[.int .u8 ((1 : UInt8)).toNat, .int .i64 x11, .int .i64 shard, .string ⟨([]).toArray⟩, .string ⟨([]).toArray⟩, .int .i64 (0 : Int), .int .i64 (0 : Int), .int .i64 (0 : Int), .slice none 0 0, .slice none 0 0, .slice none 0 0, .slice none 0 0, .slice none 0 0, .int .u8 ((0 : UInt8)).toNat, .slice none 0 0, .slice none 0 0, .slice none 0 0, .slice none 0 0, .int .i64 (0 : Int), .int .i64 (0 : Int), .int .i64 (0 : Int), .slice none 0 0, .slice none 0 0, .int .i64 (0 : Int), .int .i64 (0 : Int), .int .i64 (0 : Int), .slice none 0 0, .slice none 0 0, .int .i64 (0 : Int)]))]) w6 fun v5 w7 => ∃ x12 : Slc, v5 = (.slice x12.a x12.len x12.cap) ∧ callK Tryz.prog 31 [.pointer r, .int .i64 peer, .slice x12.a x12.len x12.cap] w7 (panR R) fun v6 w8 => v6 = (.tuple #[]) ∧ onSome r fun a6 => ∃ x13 : Int, Rd w8 ((a6.add 1).add 4) [.int .i64 x13] ∧ onSome r fun a7 => semU Tryz.prog (storeVar 3 ((a7.add 1).add 4) (.int .i64 (IntKind.i64.wrap (x13 + (1 : Int))))) w8 fun w9 => onSome r fun a8 => callK Tryz.prog 28 [.pointer (some (a8.add 1))] w9 (panR R) fun v7 w10 => ∃ x14 : Slc, v7 = (.slice x14.a x14.len x14.cap) ∧ R (.returned (.slice x14.a x14.len x14.cap)) w10) ∧ True)))) ∧ True))) ∧ True)))
theorem call6 (r : Option Addr) (peer shard : Int) {w : World} {R : Ending → World → Prop} (hden : sh6 r peer shard w R) : Calls Tryz.prog 6 #[.pointer r, .int .i64 peer, .int .i64 shard] w R :=
  calls_of_form (.seq none .z (.seq none (.seq (some [(24, .b)]) .z (.cond (.seq none .z .z) .z)) (.seq none (.draw 1 (.take 0 (.take 1 (.take 2 (.take 3 (.take 5 (.take 7 (.take 8 (.take 9 (.take 10 (.take 11 (.take 4 (.take 12 (.all [(6, (.all [(13, (.take 14 .done))]))])))))))))))))) (.seq none (.seq none .z (.cond (.seq none .z .z) .z)) (.seq none (.draw 1 (.take 0 (.take 1 (.take 2 (.take 3 (.take 5 (.take 6 (.take 7 (.take 8 (.take 9 (.take 10 (.take 11 (.take 12 (.take 4 (.take 13 (.take 14 (.all [(15, .done)]))))))))))))))))) (.seq none .z (.seq none .z (.seq none .z .z)))))))) Tryz.func6 (by kernel_rfl) [.p r, .i .i64 peer, .i .i64 shard] (by kernel_rfl) (by kernel_rfl) hden
def sh7 (r : Option Addr) (w : World) (R : Ending → World → Prop) : Prop :=
  callK Tryz.prog 15 [.pointer r] w (panR R) fun v w1 => ∃ x : Bool, v = (.bool x) ∧ condK (!x) (R (.returned (.slice none 0 0)) w1) (onSome r fun a => ∃ x1 : Option Addr, Rd w1 ((a.add 1).add 0) [.pointer x1] ∧ callK Tryz.prog 32 [.pointer x1] w1 (panR R) fun v1 w2 => v1 = (.tuple #[]) ∧ onSome r fun a1 => ∃ x2 : Slc, Rd w2 ((a1.add 8).add 2) [.slice x2.a x2.len x2.cap] ∧ ∃ (inv : List TV → World → Prop) (mu : List TV → World → Nat), inv [.sl ⟨none, 0, 0⟩, .i .i64 (0 : Int)] w2 ∧ (∀ peers : Slc, ∀ x3 : Int, ∀ w3 : World, inv [.sl peers, .i .i64 x3] w3 → condK (decide (x3 < (x2.len : Int))) (onSome r fun a2 => ∃ x4 : Int, Rd w3 ((a2.add 8).add 0) [.int .i64 x4] ∧ condK ((IntKind.i64.wrap (x3 + (1 : Int))) != x4) (semK Tryz.prog (Instr.buildSlice 53 1 #[(0, (.int .i64 (IntKind.i64.wrap (x3 + (1 : Int)))))]) w3 fun v2 w4 => ∃ x5 : Slc, v2 = (.slice x5.a x5.len x5.cap) ∧ semK Tryz.prog (Builtin.append_ #[53, 53] 53 #[.slice peers.a peers.len peers.cap, .slice x5.a x5.len x5.cap]) w4 fun v3 w5 => ∃ x6 : Slc, v3 = (.slice x6.a x6.len x6.cap) ∧ (inv [.sl x6, .i .i64 (IntKind.i64.wrap (x3 + (1 : Int)))] w5 ∧ mu [.sl x6, .i .i64 (IntKind.i64.wrap (x3 + (1 : Int)))] w5 < mu [.sl peers, .i .i64 x3] w3)) ((inv [.sl peers, .i .i64 (IntKind.i64.wrap (x3 + (1 : Int)))] w3 ∧ mu [.sl peers, .i .i64 (IntKind.i64.wrap (x3 + (1 : Int)))] w3 < mu [.sl peers, .i .i64 x3] w3))) (condK ((peers.len : Int) == (0 : Int)) (R (.returned (.slice none 0 0)) w3) (onSome r fun a3 => ∃ x7 : Int, Rd w3 ((a3.add 1).add 5) [.int .i64 x7] ∧ onSome r fun a4 => ∃ x8 : Int, Rd w3 ((a4.add 1).add 5) [.int .i64 x8] ∧ onSome r fun a5 => semU Tryz.prog (storeVar 3 ((a5.add 1).add 5) (.int .i64 (IntKind.i64.wrap (x8 + (1 : Int))))) w3 fun w6 => ∃ sx : World → Prop, sx w6.drew ∧ ((peers.len : Int) ≠ 0 ∧ ((0 ≤ (Int.tmod x7 (peers.len : Int)) ∧ (Int.tmod x7 (peers.len : Int)) < (peers.len : Nat)) ∧ onSome peers.a fun a6 => ((peers.len : Int) ≠ 0 ∧ ((4 : Int) ≠ 0 ∧ ∃ x9 : Int, (∀ w', sx w' → Rd w' (a6.add (((Int.tmod x7 (peers.len : Int))).toNat * 1)) [.int .i64 x9]) ∧ ((callK Tryz.prog 6 [.pointer r, .int .i64 x9, .int .i64 (Int.tmod (IntKind.i64.wrap (Int.tdiv x7 (peers.len : Int))) (4 : Int))] w6.drew (panR R) fun v4 w7 => ∃ x10 : Slc, v4 = (.slice x10.a x10.len x10.cap) ∧ R (.returned (.slice x10.a x10.len x10.cap)) w7) ∧ True)))))))))
theorem call7 (r : Option Addr) {w : World} {R : Ending → World → Prop} (hden : sh7 r w R) : Calls Tryz.prog 7 #[.pointer r] w R :=
  calls_of_form (.seq none .z (.seq none (.seq none .z (.cond (.seq none .z .z) .z)) (.seq none .z (.seq none .z (.seq none (.seq none .z (.block none (.loop [(3, .sl), (21, (.i .i64))] (.seq none .z (.seq none (.cond .z .z) (.seq none (.block none (.seq none .z (.seq none .z (.cond .z .z)))) .z)))))) (.seq none (.seq none .z (.cond (.seq none .z .z) .z)) (.seq none .z (.seq none .z (.seq none (.draw 1 (.take 0 (.take 1 (.take 2 (.take 3 (.take 4 (.take 5 (.take 6 (.take 8 (.take 9 (.take 10 (.take 11 (.take 12 (.take 7 (.all [(13, (.take 14 .done))]))))))))))))))) .z))))))))) Tryz.func7 (by kernel_rfl) [.p r] (by kernel_rfl) (by kernel_rfl) hden
def sh8 (r : Option Addr) (key : List UInt8) (w : World) (R : Ending → World → Prop) : Prop :=
  callK Tryz.prog 15 [.pointer r] w (panR R) fun v w1 => ∃ x : Bool, v = (.bool x) ∧ condK (!x) (R (.returned (.slice none 0 0)) w1) (onSome r fun a => ∃ x1 : Option Addr, Rd w1 ((a.add 0).add 0) [.pointer x1] ∧ callK Tryz.prog 33 [.pointer x1, .string ⟨key.toArray⟩] w1 (panR R) fun v1 w2 => ∃ x2 : Slc, v1 = (.slice x2.a x2.len x2.cap) ∧ R (.returned (.slice x2.a x2.len x2.cap)) w2)
theorem call8 (r : Option Addr) (key : List UInt8) {w : World} {R : Ending → World → Prop} (hden : sh8 r key w R) : Calls Tryz.prog 8 #[.pointer r, .string ⟨key.toArray⟩] w R :=
  calls_of_form (.seq none .z (.seq none (.seq none .z (.cond (.seq none .z .z) .z)) (.seq none .z .z))) Tryz.func8 (by kernel_rfl) [.p r, .s key] (by kernel_rfl) (by kernel_rfl) hden
def sh11 (r : Option Addr) (w : World) (R : Ending → World → Prop) : Prop :=
  callK Tryz.prog 15 [.pointer r] w (panR R) fun v w1 => ∃ x : Bool, v = (.bool x) ∧ condK (!x) (R (.returned (.int .i64 (0 : Int))) w1) (onSome r fun a => ∃ x1 : Option Nat, Rd w1 ((a.add 1).add 1) [.map x1] ∧ semK Tryz.prog (Builtin.len_ #[31] 3 #[.map x1]) w1 fun v1 w2 => ∃ x2 : Int, v1 = (.int .i64 x2) ∧ R (.returned (.int .i64 x2)) w2)
theorem call11 (r : Option Addr) {w : World} {R : Ending → World → Prop} (hden : sh11 r w R) : Calls Tryz.prog 11 #[.pointer r] w R :=
  calls_of_form (.seq none .z (.seq none (.seq none .z (.cond (.seq none .z .z) .z)) (.seq none .z .z))) Tryz.func11 (by kernel_rfl) [.p r] (by kernel_rfl) (by kernel_rfl) hden
def sh10 (r : Option Addr) (w : World) (R : Ending → World → Prop) : Prop :=
  semK Tryz.prog (Instr.alloc 55 true (.tuple #[])) w fun v w1 => ∃ x : Option Addr, v = (.pointer x) ∧ callK Tryz.prog 15 [.pointer r] w1 (panR R) fun v1 w2 => ∃ x1 : Bool, v1 = (.bool x1) ∧ condK (!x1) (onSome x fun a => semU Tryz.prog (storeVar 55 a (.agg #[.slice none 0 0, .slice none 0 0, .slice none 0 0, .slice none 0 0])) w2 fun w3 => onSome x fun a1 => ∃ xa xb xc xd : Slc, Rd w3 a1 [.slice xa.a xa.len xa.cap, .slice xb.a xb.len xb.cap, .slice xc.a xc.len xc.cap, .slice xd.a xd.len xd.cap] ∧ R (.returned (.agg #[.slice xa.a xa.len xa.cap, .slice xb.a xb.len xb.cap, .slice xc.a xc.len xc.cap, .slice xd.a xd.len xd.cap])) w3) (onSome r fun a2 => ∃ x2 : Option Addr, Rd w2 ((a2.add 0).add 0) [.pointer x2] ∧ callK Tryz.prog 38 [.pointer x2] w2 (panR R) fun v2 w4 => ∃ xa1 xb1 xc1 xd1 : Slc, v2 = (.agg #[.slice xa1.a xa1.len xa1.cap, .slice xb1.a xb1.len xb1.cap, .slice xc1.a xc1.len xc1.cap, .slice xd1.a xd1.len xd1.cap]) ∧ onSome x fun a3 => semU Tryz.prog (storeVar 55 a3 (.agg #[.slice xa1.a xa1.len xa1.cap, .slice xb1.a xb1.len xb1.cap, .slice xc1.a xc1.len xc1.cap, .slice xd1.a xd1.len xd1.cap])) w4 fun w5 => onSome x fun a4 => ∃ xa2 xb2 xc2 xd2 : Slc, Rd w5 a4 [.slice xa2.a xa2.len xa2.cap, .slice xb2.a xb2.len xb2.cap, .slice xc2.a xc2.len xc2.cap, .slice xd2.a xd2.len xd2.cap] ∧ R (.returned (.agg #[.slice xa2.a xa2.len xa2.cap, .slice xb2.a xb2.len xb2.cap, .slice xc2.a xc2.len xc2.cap, .slice xd2.a xd2.len xd2.cap])) w5)
theorem call10 (r : Option Addr) {w : World} {R : Ending → World → Prop} (hden : sh10 r w R) : Calls Tryz.prog 10 #[.pointer r] w R :=
  calls_of_form (.seq none .z (.seq none (.seq none .z (.cond (.seq none .z .z) .z)) (.seq none .z .z))) Tryz.func10 (by kernel_rfl) [.p r] (by kernel_rfl) (by kernel_rfl) hden
def sh3 (pa pb : Int) (pc : Slc) (peer shard : Int) (key : List UInt8) (w : World) (R : Ending → World → Prop) : Prop :=
  semK Tryz.prog (Instr.box 24 (.agg #[.int .i64 pa, .int .i64 pb, .slice pc.a pc.len pc.cap])) w fun v w1 => ∃ p : Option Addr, v = (.pointer p) ∧ callK Tryz.prog 4 [] w1 (panR R) fun v1 w2 => ∃ x : Bool, v1 = (.bool x) ∧ condK (!x) (R (.returned (.bool false)) w2) (∃ j : List TV → World → Prop, (onSome p fun a => ∃ x1 : Slc, Rd w2 (a.add 2) [.slice x1.a x1.len x1.cap] ∧ condK (decide ((x1.len : Int) > (4000 : Int))) (j [.b true] w2) (j [.b (decide ((key.length : Int) > (200 : Int)))] w2)) ∧ (∀ x2 : Bool, ∀ w3 : World, j [.b x2] w3 → condK x2 (R (.returned (.bool true)) w3) (semK Tryz.prog (Instr.box 42 (.agg #[.pointer none, .pointer none, .map none, .map none, .map none, .int .i64 (0 : Int), .int .i64 (0 : Int), .slice none 0 0, .int .i64 (0 : Int), .slice none 0 0, .slice none 0 0, .slice none 0 0])) w3 fun v2 w4 => ∃ x3 : Option Addr, v2 = (.pointer x3) ∧ semK Tryz.prog (Instr.buildSlice 43 2 #[(0, (.pointer none)), (1, (.pointer x3))]) w4 fun v3 w5 => ∃ x4 : Slc, v3 = (.slice x4.a x4.len x4.cap) ∧ ∃ (inv : List TV → World → Prop) (mu : List TV → World → Nat), inv [.i .i64 (0 : Int)] w5 ∧ (∀ i : Int, ∀ w6 : World, inv [.i .i64 i] w6 → condK (decide (i < (2 : Int))) (((0 ≤ i ∧ i < (x4.len : Nat)) ∧ onSome x4.a fun a1 => ∃ x5 : Option Addr, Rd w6 (a1.add (i.toNat * 1)) [.pointer x5] ∧ onSome p fun a2 => ∃ xa xb : Int, ∃ xc : Slc, Rd w6 a2 [.int .i64 xa, .int .i64 xb, .slice xc.a xc.len xc.cap] ∧ callK Tryz.prog 5 [.pointer x5, .agg #[.int .i64 xa, .int .i64 xb, .slice xc.a xc.len xc.cap]] w6 (panR R) fun v4 w7 => ∃ x6 : Slc, v4 = (.slice x6.a x6.len x6.cap) ∧ condK ((x6.len : Int) != (0 : Int)) (R (.returned (.bool false)) w7) (callK Tryz.prog 6 [.pointer x5, .int .i64 peer, .int .i64 shard] w7 (panR R) fun v5 w8 => ∃ x7 : Slc, v5 = (.slice x7.a x7.len x7.cap) ∧ condK ((x7.len : Int) != (0 : Int)) (R (.returned (.bool false)) w8) (callK Tryz.prog 7 [.pointer x5] w8 (panR R) fun v6 w9 => ∃ x8 : Slc, v6 = (.slice x8.a x8.len x8.cap) ∧ condK ((x8.len : Int) != (0 : Int)) (R (.returned (.bool false)) w9) (callK Tryz.prog 8 [.pointer x5, .string ⟨key.toArray⟩] w9 (panR R) fun v7 w10 => ∃ x9 : Slc, v7 = (.slice x9.a x9.len x9.cap) ∧ condK ((x9.len : Int) != (0 : Int)) (R (.returned (.bool false)) w10) (callK Tryz.prog 10 [.pointer x5] w10 (panR R) fun v8 w11 => ∃ xa1 xb1 xc1 xd : Slc, v8 = (.agg #[.slice xa1.a xa1.len xa1.cap, .slice xb1.a xb1.len xb1.cap, .slice xc1.a xc1.len xc1.cap, .slice xd.a xd.len xd.cap]) ∧ callK Tryz.prog 9 [.agg #[.slice xa1.a xa1.len xa1.cap, .slice xb1.a xb1.len xb1.cap, .slice xc1.a xc1.len xc1.cap, .slice xd.a xd.len xd.cap], .agg #[.slice none 0 0, .slice none 0 0, .slice none 0 0, .slice none 0 0]] w11 (panR R) fun v9 w12 => ∃ x10 : Bool, v9 = (.bool x10) ∧ condK (!x10) (R (.returned (.bool false)) w12) (callK Tryz.prog 11 [.pointer x5] w12 (panR R) fun v10 w13 => ∃ x11 : Int, v10 = (.int .i64 x11) ∧ condK (x11 != (0 : Int)) (R (.returned (.bool false)) w13) ((inv [.i .i64 (IntKind.i64.wrap (i + (1 : Int)))] w13 ∧ mu [.i .i64 (IntKind.i64.wrap (i + (1 : Int)))] w13 < mu [.i .i64 i] w6))))))))) (R (.returned (.bool true)) w6)))))
theorem call3 (pa pb : Int) (pc : Slc) (peer shard : Int) (key : List UInt8) {w : World} {R : Ending → World → Prop} (hden : sh3 pa pb pc peer shard key w R) : Calls Tryz.prog 3 #[.agg #[.int .i64 pa, .int .i64 pb, .slice pc.a pc.len pc.cap], .int .i64 peer, .int .i64 shard, .string ⟨key.toArray⟩] w R :=
  calls_of_form (.seq none .z (.seq none (.seq none .z (.cond (.seq none .z .z) .z)) (.seq none (.seq (some [(22, .b)]) .z (.cond (.seq none .z .z) .z)) (.seq none .z (.seq none (.seq none .z (.block none (.loop [(10, (.i .i64))] (.seq none (.seq none .z (.cond .z .z)) (.seq none (.block none (.seq none .z (.seq none .z (.cond (.seq none .z .z) .z)))) .z))))) (.seq none .z .z)))))) Tryz.func3 (by kernel_rfl) [.agg [.i .i64 pa, .i .i64 pb, .sl pc], .i .i64 peer, .i .i64 shard, .s key] (by kernel_rfl) (by kernel_rfl) hden
def hd0 : List Value := [.slice none 0 0, .slice none 0 0, .slice none 0 0, .slice none 0 0]
def ra0 : List Value := [.pointer none, .pointer none, .map none, .map none, .map none, .int .i64 0, .int .i64 0, .slice none 0 0, .int .i64 0, .slice none 0 0, .slice none 0 0, .slice none 0 0]
def NoOf (z : List Value) (w : World) (c : Option Addr) : Prop := c = none ∨ ∃ b T, c = some ⟨b, 0, none⟩ ∧ Blk w b z T
theorem NoOf.no {z : List Value} {w w' : World} {c : Option Addr} (h : NoOf z w c) (hm : Mod NoB w w') : NoOf z w' c := by
  rcases h with h | ⟨b, T, h1, h2⟩
  · exact .inl h
  · exact .inr ⟨b, T, h1, h2.no hm⟩
theorem iHeld0 : ∃ i, Tryz.prog.info? 55 = some i ∧ i.zero = some (.agg hd0.toArray) ∧ i.size = 4 ∧ i.bytes = 96 := info_of (by kernel_rfl) (by kernel_rfl) (by kernel_rfl)
theorem hd0_one : ∀ u ∈ hd0, u.oneCell' = true := by intro u hu; simp [hd0] at hu; subst hu; rfl
theorem uPR : Tryz.prog.underlying 26 = some (.pointer 42) := by kernel_rfl
section
variable {w : World} {c : Option Addr}
theorem c_thereR (hc : NoOf ra0 w c) : Calls Tryz.prog 15 #[.pointer c] w (Ret fun v w' => v = .bool false ∧ w' = w) := by
  refine call15 _ ?_
  unfold sh15
  refine ps_neq_ptr uPR ⟨_, rfl, condK_i (fun h => ?_) fun h => ⟨rfl, rfl⟩⟩
  rcases hc with rfl | ⟨b, T, rfl, hb⟩
  · simp at h
  · exact ⟨none, hb.rd1 (o := 0) rfl, ps_neq_ptr (e := 183) (by kernel_rfl) ⟨_, rfl, rfl, rfl⟩⟩
theorem c_HandleN {a b : Int} {s : Slc} (hc : NoOf ra0 w c) : Calls Tryz.prog 5 #[.pointer c, .agg #[.int .i64 a, .int .i64 b, .slice s.a s.len s.cap]] w (Ret fun v w' => v = .slice none 0 0 ∧ Mod NoB w w') := by
  refine call5 _ _ _ _ ?_
  unfold sh5
  refine sem_box (l := [.int .i64 a, .int .i64 b, s.val]) rfl fun q w1 hN1 hb1 => ⟨_, rfl, ?_⟩
  have hm1 : Mod NoB w w1.drew := hN1.mod.tr (Mod.drew _ _)
  refine ⟨fun l w' => match l with | [.b t] => t = false ∧ w' = w1 | _ => False, callK_ret (c_thereR (hc.no hN1.mod)) ?_, ?_⟩
  · rintro v w2 ⟨rfl, rfl⟩
    exact ⟨_, rfl, condK_i (fun h => by cases h) fun _ => ⟨rfl, rfl⟩⟩
  rintro t w2 ⟨rfl, rfl⟩
  refine ⟨fun l w' => match l with | [.b t] => t = true ∧ Mod NoB w w' | _ => False, ⟨fun w' => w' = w2.drew, rfl, callK_ret (c_thereR (hc.no hm1)) ?_, trivial⟩, ?_⟩
  · rintro v w4 ⟨rfl, rfl⟩
    exact ⟨_, rfl, rfl, condK_i (fun _ => ⟨⟨rfl, ⟨rfl, rfl, hm1⟩, trivial⟩, trivial⟩) fun h => by cases h⟩
  rintro t w5 ⟨rfl, hm5⟩
  exact condK_i (fun _ => ⟨rfl, hm5⟩) fun h => by cases h
theorem c_PullN {n m : Int} (hc : NoOf ra0 w c) : Calls Tryz.prog 6 #[.pointer c, .int .i64 n, .int .i64 m] w (Ret fun v w' => v = .slice none 0 0 ∧ w' = w) := by
  refine call6 _ _ _ ?_
  unfold sh6
  refine ⟨fun l w' => match l with | [.b t] => t = true ∧ w' = w | _ => False, callK_ret (c_thereR hc) ?_, ?_⟩
  · rintro v w2 ⟨rfl, rfl⟩
    exact ⟨_, rfl, condK_i (fun _ => ⟨rfl, rfl⟩) fun h => by cases h⟩
  rintro t w2 ⟨rfl, rfl⟩
  exact condK_i (fun _ => ⟨rfl, rfl⟩) fun h => by cases h
theorem c_TickN (hc : NoOf ra0 w c) : Calls Tryz.prog 7 #[.pointer c] w (Ret fun v w' => v = .slice none 0 0 ∧ w' = w) := by
  refine call7 _ ?_
  unfold sh7
  refine callK_ret (c_thereR hc) ?_
  rintro v w1 ⟨rfl, rfl⟩
  exact ⟨_, rfl, condK_i (fun _ => ⟨rfl, rfl⟩) fun h => by cases h⟩
theorem c_GetN {k : List UInt8} (hc : NoOf ra0 w c) : Calls Tryz.prog 8 #[.pointer c, .string ⟨k.toArray⟩] w (Ret fun v w' => v = .slice none 0 0 ∧ w' = w) := by
  refine call8 _ _ ?_
  unfold sh8
  refine callK_ret (c_thereR hc) ?_
  rintro v w1 ⟨rfl, rfl⟩
  exact ⟨_, rfl, condK_i (fun _ => ⟨rfl, rfl⟩) fun h => by cases h⟩
theorem c_PullsN (hc : NoOf ra0 w c) : Calls Tryz.prog 11 #[.pointer c] w (Ret fun v w' => v = .int .i64 0 ∧ w' = w) := by
  refine call11 _ ?_
  unfold sh11
  refine callK_ret (c_thereR hc) ?_
  rintro v w1 ⟨rfl, rfl⟩
  exact ⟨_, rfl, condK_i (fun _ => ⟨rfl, rfl⟩) fun h => by cases h⟩
theorem c_HeldN (hc : NoOf ra0 w c) : Calls Tryz.prog 10 #[.pointer c] w (Ret fun v w' => v = .agg hd0.toArray ∧ Mod NoB w w') := by
  obtain ⟨i, r1, r2, r3, r4⟩ := iHeld0
  refine call10 _ ?_
  unfold sh10
  refine sem_alloc (l := hd0) r1 r2 rfl fun p w1 hN1 hb1 => ⟨_, rfl, ?_⟩
  have e1 := hN1.at_
  refine callK_ret (c_thereR (hc.no hN1.mod)) ?_
  rintro v w2 ⟨rfl, rfl⟩
  refine ⟨_, rfl, condK_i (fun _ => ?_) fun h => by cases h⟩
  refine semU_store (o := 0) (vs := hd0) (by kernel_rfl) (by kernel_rfl) rfl hb1 (by simp [hd0]) hd0_one fun w4 ht4 hb4 => ?_
  have hb4 : Blk w4 p hd0 _ := hb4
  exact ⟨⟨none, 0, 0⟩, ⟨none, 0, 0⟩, ⟨none, 0, 0⟩, ⟨none, 0, 0⟩, hb4.rd fun j v hj => by simpa [hd0] using hj, rfl, hN1.mod.fresh ht4.mod fun z e => by (have : z = p := e); omega⟩
end
noncomputable def zheld : X.XV := .agg [.sl none 0 0, .sl none 0 0, .sl none 0 0, .sl none 0 0]
theorem x_held0 : resV (runA 9 [zheld, zheld] ⟨.lf, 0⟩) = some (.bool true) := by kernel_rfl
theorem c_held0 {w : World} (hw : GS w) : Calls Tryz.prog 9 #[.agg hd0.toArray, .agg hd0.toArray] w (Ret fun v w' => v = .bool true ∧ Mod NoB w w') := by
  obtain ⟨h', e1⟩ := resV_ex x_held0
  have hq := X.quiet_dry ((X.xcalls_ok mixed dF_ok nA_ok 60).c _ _ _ _ _ e1) (fun _ => rfl) (fun _ => rfl) ⟨.lf, 0⟩
  have hz : X.XR (fun _ => none) zheld (.agg hd0.toArray) := by
    simp only [zheld, X.XR]
    exact ⟨hd0, ⟨_, _, rfl, rfl, _, _, rfl, rfl, _, _, rfl, rfl, _, _, rfl, rfl, rfl⟩, rfl⟩
  refine Calls.mono (c_q hq (fun w' hm => hw.no hm) (vs := [.agg hd0.toArray, .agg hd0.toArray]) ⟨_, _, rfl, hz, _, _, rfl, hz, rfl⟩) fun e w' ⟨v, h1, h2, h3⟩ => ?_
  simp only [X.XR] at h2
  subst h1 h2
  exact ⟨rfl, h3⟩
end Go.Proofs.YtgemgaofamloeaaGreatDoor
end
section
namespace Go.Proofs.YtgemgaofamloeaaGreatDoor
open Go Go.Sh Go.X
theorem awakeV : resV (runA 4 [] ⟨.lf, 0⟩) = some (.bool true) := by kernel_rfl
theorem c_awake25 {w : World} (hw : GS w) : Calls Tryz.prog 4 #[] w (Ret fun v w' => v = .bool true ∧ Mod NoB w w') := by
  obtain ⟨h', e1⟩ := resV_ex awakeV
  have hq := quiet_dry ((xcalls_ok mixed dF_ok nA_ok 60).c _ _ _ _ _ e1) (fun _ => rfl) (fun _ => rfl) ⟨.lf, 0⟩
  refine Calls.mono (c_q hq (fun w' hm => hw.no hm) (vs := []) rfl) fun e w' ⟨v, h1, h2, h3⟩ => ?_
  simp only [XR] at h2
  subst h1 h2
  exact ⟨rfl, h3⟩
end Go.Proofs.YtgemgaofamloeaaGreatDoor
end
section
namespace Go.Proofs.YtgemgaofamloeaaGreatDoor
open Go Go.Sh
theorem iPR : ∃ i, Tryz.prog.info? 26 = some i ∧ i.zero = some (.pointer none) ∧ i.size = 1 ∧ i.bytes = 8 := info_of (by kernel_rfl) (by kernel_rfl) (by kernel_rfl)
theorem uPRs : Tryz.prog.underlying 43 = some (.slice 26) := by kernel_rfl
section
variable {w : World}
theorem c_replicaNone {a b peer shard : Int} {s : Slc} {k : List UInt8} (hG : GS w) :
    Calls Tryz.prog 3 #[.agg #[.int .i64 a, .int .i64 b, .slice s.a s.len s.cap], .int .i64 peer, .int .i64 shard, .string ⟨k.toArray⟩] w (Ret fun v w' => v = .bool true ∧ Mod NoB w w') := by
  refine call3 _ _ _ _ _ _ ?_
  unfold sh3
  let pk : List Value := [.int .i64 a, .int .i64 b, s.val]
  refine sem_box (l := pk) rfl fun q w1 hN1 hb1 => ⟨_, rfl, ?_⟩
  refine callK_ret (c_awake25 (hG.no hN1.mod)) ?_
  rintro v w2 ⟨rfl, hm2⟩
  refine ⟨_, rfl, condK_i (fun h => by cases h) fun _ => ?_⟩
  have hM2 := hN1.mod.tr hm2
  have hb2 := hb1.no hm2
  have hrd : ∀ w', Mod NoB w2 w' → Rd w' ⟨q, 0, none⟩ pk := fun w' hm => (hb2.no hm).rd fun j v hj => by simpa using hj
  refine ⟨fun l w' => match l with | [.b t] => w' = w2 | _ => False, ⟨s, hb2.rd1 (o := 2) rfl, condK_i (fun _ => rfl) fun _ => rfl⟩, ?_⟩
  rintro t w3 rfl
  refine condK_i (fun _ => ⟨rfl, hM2⟩) fun _ => ?_
  refine sem_box (l := ra0) rfl fun cb w4 hN4 hb4 => ⟨_, rfl, ?_⟩
  obtain ⟨ipc, c1, c2, c3, c4⟩ := iPR
  refine sem_lit (l := [.pointer none, .pointer (some ⟨cb, 0, none⟩)]) [.pointer none, .pointer (some ⟨cb, 0, none⟩)] uPRs c1 c2 c3 (by decide) rfl (by decide) (by decide) rfl (by simp [Value.cells]) rfl fun lb w5 hN5 hb5 => ⟨⟨_, _, _⟩, rfl, ?_⟩
  have hm25 := hN4.mod.tr hN5.mod
  have hb45 := hb4.no hN5.mod
  refine ⟨fun l' w' => match l' with | [.i _ z] => ∃ j : Nat, z = j ∧ j ≤ 2 ∧ Mod NoB w5 w' | _ => False, fun l' _ => match l' with | [.i _ z] => (2 - z).toNat | _ => 0, ⟨0, rfl, by omega, Mod.refl _ _⟩, ?_⟩
  rintro z w6 ⟨j, rfl, hj, hm6⟩
  refine condK_i (fun hlt => ?_) fun hge => ⟨rfl, (hM2.tr hm25).tr hm6⟩
  have hj' : j < 2 := by simp at hlt; omega
  obtain ⟨c, hc, hrc⟩ : ∃ c : Option Addr, NoOf ra0 w5 c ∧ Rd w6 ((⟨lb, 0, none⟩ : Addr).add (j * 1)) [.pointer c] := by
    match j, hj' with
    | 0, _ => exact ⟨none, .inl rfl, (hb5.no hm6).rd1 (o := 0) rfl⟩
    | 1, _ => exact ⟨some ⟨cb, 0, none⟩, .inr ⟨cb, _, rfl, hb45⟩, (hb5.no hm6).rd1 (o := 1) rfl⟩
  refine ⟨⟨by omega, by show (j : Int) < ((2 : Nat) : Int); omega⟩, c, hrc, a, b, s, hrd _ (hm25.tr hm6), ?_⟩
  refine callK_ret (c_HandleN (hc.no hm6)) ?_
  rintro v w7 ⟨rfl, hm7⟩
  have hm7 := hm6.tr hm7
  refine ⟨⟨none, 0, 0⟩, rfl, condK_i (fun h => by simp at h) fun _ => ?_⟩
  refine callK_ret (c_PullN (hc.no hm7)) ?_
  rintro v w8 ⟨rfl, rfl⟩
  refine ⟨⟨none, 0, 0⟩, rfl, condK_i (fun h => by simp at h) fun _ => ?_⟩
  refine callK_ret (c_TickN (hc.no hm7)) ?_
  rintro v w9 ⟨rfl, rfl⟩
  refine ⟨⟨none, 0, 0⟩, rfl, condK_i (fun h => by simp at h) fun _ => ?_⟩
  refine callK_ret (c_GetN (hc.no hm7)) ?_
  rintro v w10 ⟨rfl, rfl⟩
  refine ⟨⟨none, 0, 0⟩, rfl, condK_i (fun h => by simp at h) fun _ => ?_⟩
  refine callK_ret (c_HeldN (hc.no hm7)) ?_
  rintro v w11 ⟨rfl, hm11⟩
  have hm11 := hm7.tr hm11
  refine ⟨⟨none, 0, 0⟩, ⟨none, 0, 0⟩, ⟨none, 0, 0⟩, ⟨none, 0, 0⟩, rfl, ?_⟩
  refine callK_ret (c_held0 (hG.no (hM2.tr (hm25.tr hm11)))) ?_
  rintro v w12 ⟨rfl, hm12⟩
  have hm12 := hm11.tr hm12
  refine ⟨_, rfl, condK_i (fun h => by cases h) fun _ => ?_⟩
  refine callK_ret (c_PullsN (hc.no hm12)) ?_
  rintro v w13 ⟨rfl, rfl⟩
  refine ⟨0, rfl, condK_i (fun h => by simp at h) fun _ => ⟨⟨j + 1, wrap_nat (by omega), by omega, hm12⟩, ?_⟩⟩
  rw [wrap_nat (by omega)]; (try simp only []); omega
end
end Go.Proofs.YtgemgaofamloeaaGreatDoor
end
