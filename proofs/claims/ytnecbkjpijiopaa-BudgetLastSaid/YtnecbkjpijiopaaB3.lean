/- Budget: 'with' and what is made of it. -/
import Derived.Test.YtnecbkjpijiopaaB2
set_option linter.unusedSimpArgs false
set_option linter.unusedVariables false
namespace Go.Proofs.Ytnecbkjpijiopaa
open Go Go.Sh Go.MapKept

theorem u39 : Try.prog.underlying 39 = some (.map 3 55) := by kernel_rfl
theorem u3 : Try.prog.underlying 3 = some (.int .i64) := by kernel_rfl
theorem u55 : Try.prog.underlying 55 = some (.pointer 59) := by kernel_rfl
theorem u24 : Try.prog.underlying 24 = some (.pointer 41) := by kernel_rfl
theorem i55 : ∃ i, Try.prog.info? 55 = some i ∧ i.zero = some (.pointer none) ∧ i.size = 1 ∧ i.bytes = 8 := info_of (by kernel_rfl) (by kernel_rfl) (by kernel_rfl)

/-- a budget that nobody made -/
def Un (w : World) (b : Option Addr) : Prop := b = none ∨ ∃ p r, b = some ⟨p, 0, none⟩ ∧ Blk w p (.map none :: r) 41
theorem Un.mod {w w' : World} {b : Option Addr} {S : Nat → Prop} (h : Un w b) (hm : Mod S w w') (hS : ∀ x, x < w.heap.size → ¬ S x) : Un w' b := by
  rcases h with h | ⟨p, r, e, hb⟩
  · exact .inl h
  · exact .inr ⟨p, r, e, hb.mod hm (hS p hb.lt)⟩
theorem c32_un {w : World} {b : Option Addr} (h : Un w b) : Calls Try.prog 32 #[.pointer b] w (Ret fun v w' => v = .bool false ∧ w' = w) := by
  refine call32 _ ?_
  unfold sh32
  rcases h with rfl | ⟨p, r, rfl, hb⟩
  · exact ps_neq_ptr u24 ⟨_, rfl, rfl, rfl⟩
  · refine ps_neq_ptr u24 ⟨_, rfl, none, hb.rd1 rfl, ps_neq_map u39 ⟨_, rfl, rfl, rfl⟩⟩
theorem c32 {w : World} {b m : Nat} {r : List Value} (hb : Blk w b (.map (some m) :: r) 41) : Calls Try.prog 32 #[.pointer (some ⟨b, 0, none⟩)] w (Ret fun v w' => v = .bool true ∧ w' = w) := by
  refine call32 _ ?_
  unfold sh32
  exact ps_neq_ptr u24 ⟨_, rfl, some m, hb.rd1 rfl, ps_neq_map u39 ⟨_, rfl, rfl, rfl⟩⟩
theorem c28_un {w : World} {b : Option Addr} (h : Un w b) (peer : Int) (f : Value) : Calls Try.prog 28 #[.pointer b, .int .i64 peer, f] w (Ret fun v w' => v = .tuple #[] ∧ w' = w) := by
  refine call28 _ _ _ ?_
  unfold sh28
  refine callK_ret (c32_un h) ?_
  rintro v w' ⟨rfl, rfl⟩
  exact ⟨_, rfl, rfl, rfl⟩

/-- what 'with' is handed: a closure that turns an account so -/
def Does (f : FuncId) (caps : Array Value) (b : Nat) (T : Nat → Prop) (W0 Qx : World → Prop) (x x' : List Int × Int) : Prop :=
  ∀ w1 p s, W0 w1 → AccAt w1 p s x.1 x.2 → ¬ T p → (∀ y, s.blk = some y → ¬ T y) → p ≠ b → s.blk ≠ some b →
   Calls Try.prog f (([] : List Value) ++ [Value.pointer (some ⟨p, 0, none⟩)] ++ caps.toList).toArray w1 (Ret fun v w2 => v = .tuple #[] ∧ AccNext T w1 w2 p s x'.1 x'.2 ∧ Qx w2)

def Kept (pl : Pl) (peer : Int) (es es' : List MapEntry) (clock clock' : Nat) : Prop := (pl peer).isSome = true → clock' = clock ∧ es'.Sublist es ∧ ∀ x ∈ es, x.key ≠ .int .i64 peer → x ∈ es'

theorem c28 {w : World} {b : Nat} {S : Nat → Prop} {st : BSt} {m : Nat} {es : List MapEntry} {clock : Nat} {pl : Pl} (h : BRep w b S st m es clock pl) {peer : Int} {f : FuncId} {caps : Array Value} {T : Nat → Prop} {W0 Qx : World → Prop} {x' : List Int × Int}
    (he : enters Try.prog f = true) (hT : ∀ x, S x → ¬ T x) (hTl : ∀ x, T x → x < w.heap.size)
    (hW : ∀ w1, Mod (fun x => S x ∧ x ≠ b) w w1 → W0 w1) (hQ : ∀ U w1 w2, Qx w1 → Mod U w1 w2 → (∀ x, T x → ¬ U x) → Qx w2) (hd : Does f caps b T W0 Qx (st.acc peer) x') :
    Calls Try.prog 28 #[.pointer (some ⟨b, 0, none⟩), .int .i64 peer, .func (.func f) #[] caps] w (Ret fun v w' => v = .tuple #[] ∧ Qx w' ∧
      ∃ S' es' clock' pl', BRep w' b S' (st.put peer x') m es' clock' pl' ∧ (∀ x, S' x → S x ∨ w.heap.size ≤ x) ∧ Mod (fun x => S x ∨ T x) w w' ∧ Kept pl peer es es' clock clock') := by
  refine call28 _ _ _ ?_
  unfold sh28
  obtain ⟨i5, h51, h52, h53, h54⟩ := i55
  refine callK_ret (c32 h.blk) ?_
  rintro v w' ⟨rfl, rfl⟩
  refine ⟨true, rfl, some m, h.blk.rd1 rfl, ?_⟩
  -- the account, as it is found or made
  let J : List TV → World → Prop := fun l w5 => ∃ p s S5 es5 clock5 pl5, l = [.p (some ⟨p, 0, none⟩)] ∧ BRep w5 b S5 st m es5 clock5 pl5 ∧ pl5 peer = some (p, s) ∧
    (∀ x, S5 x → S x ∨ w'.heap.size ≤ x) ∧ Mod (fun x => S x ∧ x ≠ b) w' w5 ∧ (∀ x, T x → ¬ S5 x) ∧ ((pl peer).isSome = true → clock5 = clock ∧ es5 = es)
  have hlk : semK Try.prog (Instr.lookup 39 (.map (some m)) (.int .i64 peer) false) w' fun v w2 => ∃ x2 : Option Addr, v = .pointer x2 ∧ w2 = w' ∧ ((∃ p s, x2 = some ⟨p, 0, none⟩ ∧ pl peer = some (p, s)) ∨ (x2 = none ∧ pl peer = none ∧ ∀ e ∈ es, e.key ≠ .int .i64 peer)) := by
    refine sem_lookup u39 u3 h51 h52 h.map (by simp [IsKey]) (fun e hm hk => ?_) (fun hno => ?_)
    · obtain ⟨q, p, s, e1, e2, e3⟩ := h.ent e hm
      rw [hk] at e1
      cases e1
      exact ⟨_, e3, rfl, .inl ⟨p, s, rfl, e2⟩⟩
    · refine ⟨none, rfl, rfl, .inr ⟨rfl, ?_, hno⟩⟩
      cases hp : pl peer with
      | none => rfl
      | some y =>
        obtain ⟨⟨e, he, hk, _⟩, _⟩ := h.acc peer y.1 y.2 hp
        exact absurd hk (hno e he)
  obtain ⟨v, w2, hrun, x2, rfl, rfl, hx2⟩ := hlk
  refine ⟨_, _, hrun, x2, rfl, J, ?_, ?_⟩
  · rcases hx2 with ⟨p, s, rfl, e2⟩ | ⟨rfl, hp, hno⟩
    · exact ps_eql_ptr u55 ⟨_, rfl, ⟨p, s, S, es, clock, pl, rfl, h, e2, fun x hx => .inl hx, Mod.refl _ _, fun x hx e => hT x e hx, fun _ => ⟨rfl, rfl⟩⟩⟩
    · refine ps_eql_ptr u55 ⟨_, rfl, sem_box (l := [.slice none 0 0, .int .i64 0]) rfl fun p w3 hN hb => ⟨_, rfl, some m, (h.blk.mod hN.mod fun h => h).rd1 rfl, ?_⟩⟩
      refine semU_mapPush u39 u3 (h.map.mod hN.mod fun h => h) (by simp [IsKey]) hno fun w4 hM hm hsz => ?_
      refine ⟨p, ⟨none, 0, 0⟩, _, _, _, _, rfl, h.new hp hN hb hM hm hsz, by simp [Pl.put], ?_, ?_, ?_, ?_⟩
      · rintro x (e | e)
        · exact .inl e
        · right; have := hN.at_; omega
      · exact hN.mod.no (hm.mono fun x _ e => ⟨e ▸ h.ins.2.1, e ▸ (Ne.symm h.bm)⟩)
      · rintro x hx (e | e)
        · exact hT x e hx
        · have := hTl x hx; have := hN.at_; omega
      · intro hs; rw [hp] at hs; cases hs
  · rintro a2 w5 ⟨p, s, S5, es5, clock5, pl5, hl, hB, hp, hS5, hm5, hT5, hk5⟩
    cases hl
    have hin := hB.ins.2.2 peer p s hp
    have hA := (hB.acc peer p s hp).2
    refine callFV_of he (callK_ret (hd w5 p s (hW w5 hm5) hA (fun e => hT5 _ e hin.1) (fun y hy e => hT5 _ e (hin.2 y hy)) (hB.off peer p s hp).1 (hB.off peer p s hp).2.2.1) ?_)
    rintro v w6 ⟨rfl, ⟨s', hA', hs', hm6⟩, hq⟩
    have hB6 := hB.upd hp (T := T) (fun x hx e => hT5 x e hx) hA' hs' hm6
    have hS6 : ∀ x, S5 x ∨ s'.blk = some x → S x ∨ w2.heap.size ≤ x := by
      rintro x (e | e)
      · exact hS5 x e
      · rcases hs' with e' | ⟨y, e', hy⟩
        · exact hS5 x (hin.2 x (by rw [← e']; exact e))
        · rw [e'] at e; cases e; exact .inr (Nat.le_trans hm5.size hy)
    have hm : Mod (fun x => S x ∨ T x) w2 w6 := hm5.trans hm6 (fun x _ e => .inl e.1) fun x hx e => by
      rcases e with e | e | e
      · exact .inl ((hS5 x (e ▸ hin.1)).elim id fun e => absurd hx (by omega))
      · exact .inl ((hS5 x (hin.2 x e)).elim id fun e => absurd hx (by omega))
      · exact .inr e
    refine ⟨rfl, callK_ret (c39 hA') ?_⟩
    rintro v w7 ⟨rfl, rfl⟩
    refine ⟨_, rfl, condK_i (fun hc => ?_) (fun hc => ?_)⟩
    · simp only [Bool.and_eq_true, beq_iff_eq, List.length_eq_zero_iff] at hc
      have hx' : x' = ([], 0) := Prod.ext hc.2 hc.1
      refine ⟨some m, hB6.blk.rd1 rfl, sem_delete u39 u3 hB6.map (by simp [IsKey]) fun es' w8 hes hsub hM hm8 hsz => ⟨rfl, rfl, ?_, _, es', clock5, _, hB6.del (by simp [BSt.put, hx']) hes hM hm8 hsz, hS6, ?_, ?_⟩⟩
      · exact hQ _ _ _ hq hm8 fun x hx e => hT5 x hx (e ▸ hB.ins.2.1)
      · exact hm.trans hm8 (fun _ _ e => e) fun x hx e => .inl ((hS5 x (e ▸ hB.ins.2.1)).elim id fun e => absurd hx (by omega))
      · intro hs
        obtain ⟨e1, e2⟩ := hk5 hs
        subst e1 e2
        exact ⟨rfl, hsub, fun x hx hk => (hes x).2 ⟨hx, hk⟩⟩
    · refine ⟨rfl, hq, _, es5, clock5, _, hB6, hS6, hm, ?_⟩
      intro hs
      obtain ⟨e1, e2⟩ := hk5 hs
      subst e1 e2
      exact ⟨rfl, List.Sublist.refl _, fun x hx _ => hx⟩
end Go.Proofs.Ytnecbkjpijiopaa
