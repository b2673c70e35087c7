/- Budget: the document's Open. -/
import Derived.Test.YtnecbkjpijiopaaB8
set_option linter.unusedSimpArgs false
set_option linter.unusedVariables false
namespace Go.Proofs.Ytnecbkjpijiopaa
open Go Go.Sh

def ofPeer (peer : Int) (op : List (Int × Int)) : List (Int × Int) := op.filter fun p => p.1 == peer
def refOpen (op : List (Int × Int)) (peer n sess : Int) : List (Int × Int) × Int × Bool × Int :=
  if (peer, n) ∈ op then (op, 0, false, 7)
  else if ((ofPeer peer (op ++ [(peer, n)])).length : Int) ≤ sess then (op ++ [(peer, n)], 0, false, 0)
  else ((op ++ [(peer, n)]).filter (fun p => decide (p ≠ (peer, ((ofPeer peer (op ++ [(peer, n)])).headD (0, 0)).2))), ((ofPeer peer (op ++ [(peer, n)])).headD (0, 0)).2, true, 0)

theorem c18r {w : World} {r : Nat} {S : Nat → Prop} {op : List (Int × Int)} {bd : List Int} {sess most peer n : Int} (h : RH w r S op bd sess most) (hn : op.length ≤ 900000) :
    Calls Try.prog 18 #[.pointer (some ⟨r, 0, none⟩), .int .i64 peer, .int .i64 n] w (Ret fun v w' => v = .tuple #[.int .i64 (refOpen op peer n sess).2.1, .bool (refOpen op peer n sess).2.2.1, .int .i64 (refOpen op peer n sess).2.2.2] ∧
      RPost S w w' r (refOpen op peer n sess).1 bd sess most) := by
  refine call18 _ _ _ ?_
  unfold sh18
  refine callK_ret (c20r (peer := peer) (n := n) h (by omega)) ?_
  rintro v w' ⟨rfl, rfl⟩
  refine ⟨_, rfl, condK_i (fun hin => ?_) (fun hin => ?_)⟩
  · have hin' : (peer, n) ∈ op := of_decide_eq_true hin
    unfold refOpen
    simp only [if_pos hin']
    exact ⟨rfl, S, h, fun x hx => .inl hx, Mod.refl _ _⟩
  have hin' : (peer, n) ∉ op := of_decide_eq_false hin
  obtain ⟨s1, s2, h⟩ := h
  obtain ⟨i61, h1, h2, h3, h4⟩ := i61
  have hl := pr_len h.o1.rd
  refine ⟨s1, h.blk.rd1 rfl, sem_lit [.agg #[.int .i64 peer, .int .i64 n]] (l := [.int .i64 peer, .int .i64 n]) u51 h1 h2 h3 (by decide) rfl (by decide) (by decide) rfl (by intro v hv; simp at hv; subst hv; rfl) rfl fun b w2 hN hb => ⟨⟨_, _, _⟩, rfl, ?_⟩⟩
  have h' := h.mod hN.mod fun _ _ h => h
  have hsz := hN.size; have hat := hN.at_
  refine sem_append u51 h1 h2 h3 rfl h4 h'.o1 (own_new (n := 1) (c := 1) (k := 2) hb rfl (by omega)).rd (by intro y hy; simp at hy; rcases hy with rfl | rfl <;> rfl) (by simp only []; omega) (by simp only []; omega) ?_
  intro s' w3 ho hlen hblk hm3
  have ho' : Own w3 s' 2 (prs (op ++ [(peer, n)])) := by rw [prs_app]; exact ho
  have hb' : s'.blk = s1.blk ∨ ∃ x, s'.blk = some x ∧ w2.heap.size ≤ x := by
    rcases hblk with e | e
    · exact .inl e
    · exact .inr ⟨_, e, by omega⟩
  refine ⟨s', rfl, h'.st1 hm3 ho' hb' fun w4 hR hm4 => ?_⟩
  have hm04 : Mod S w' w4 := hN.mod.no ((hm3.mono fun x _ e => h.ins.2.1 x e).tr (hm4.mono fun x _ e => e ▸ h.ins.1))
  have hSx : ∀ x, S x ∨ s'.blk = some x → S x ∨ w'.heap.size ≤ x := by
    rintro x (hx | hx)
    · exact .inl hx
    · rcases hblk with e | e
      · exact .inl (h.ins.2.1 x (by rw [← e]; exact hx))
      · rw [e] at hx; cases hx; right; omega
  have hdef : refOpen op peer n sess = if ((ofPeer peer (op ++ [(peer, n)])).length : Int) ≤ sess then (op ++ [(peer, n)], 0, false, 0)
      else ((op ++ [(peer, n)]).filter (fun p => decide (p ≠ (peer, ((ofPeer peer (op ++ [(peer, n)])).headD (0, 0)).2))), ((ofPeer peer (op ++ [(peer, n)])).headD (0, 0)).2, true, 0) := by
    unfold refOpen
    rw [if_neg hin']
  rw [hdef]
  have hne : ofPeer peer (op ++ [(peer, n)]) ≠ [] := by
    intro e
    have : (peer, n) ∈ ofPeer peer (op ++ [(peer, n)]) := by simp [ofPeer]
    rw [e] at this; simp at this
  have hlo : (op ++ [(peer, n)]).length ≤ 900001 := by simp; omega
  clear hdef hin hin' hn hb'
  generalize op ++ [(peer, n)] = op' at *
  have hl' := pr_len hR.o1.rd
  refine ⟨fun l w5 => match l with
      | [.i _ c, .i _ el, .i _ i] => ∃ k : Nat, i = k ∧ k ≤ op'.length ∧ w5 = w4 ∧ c = ((ofPeer peer (op'.take k)).length : Nat) ∧ ((ofPeer peer (op'.take k) = [] ∧ el = -1) ∨ ∃ e : Nat, el = e ∧ e < k ∧ (ofPeer peer (op'.take k)).head? = op'[e]?)
      | _ => False, fun l _ => match l with | [.i _ _, .i _ _, .i _ i] => (s'.len - i).toNat | _ => 0, ⟨0, rfl, by omega, rfl, rfl, .inl ⟨rfl, rfl⟩⟩, ?_⟩
  rintro c el i w5 ⟨k, rfl, hk, rfl, rfl, hel⟩
  refine ⟨s', hR.blk.rd1 rfl, condK_i (fun hc => ?_) (fun hc => ?_)⟩
  · have hk' : k < op'.length := by rw [hl']; simpa using hc
    obtain ⟨a, ha, hrd⟩ := pr_at hR.o1.rd hk'
    refine ⟨s', hR.blk.rd1 rfl, ⟨by omega, by omega⟩, ?_⟩
    rw [ha]
    have hcl : (ofPeer peer (op'.take k)).length ≤ k := Nat.le_trans (List.length_filter_le _ _) (by simp; omega)
    have hstep : ofPeer peer (op'.take (k + 1)) = ofPeer peer (op'.take k) ++ (if op'[k].1 = peer then [op'[k]] else []) := by
      unfold ofPeer
      rw [List.take_succ_eq_append_getElem (by omega), List.filter_append]
      by_cases hp : op'[k].1 = peer <;> simp [hp]
    refine ⟨⟨by omega, by omega⟩, _, rd_sub hrd (j := 0) rfl, condK_i (fun he => ?_) (fun he => ?_)⟩
    · have he' : op'[k].1 = peer := by simpa using he
      rw [if_pos he'] at hstep
      refine condK_i (fun hn => ?_) (fun hn => ?_)
      · have hn' : el < 0 := by simpa using hn
        rcases hel with ⟨e1, rfl⟩ | ⟨e, rfl, _⟩
        · rw [wrap_nat (by omega), wrap_nat (by omega)]
          refine ⟨⟨k + 1, rfl, by omega, rfl, by rw [hstep]; simp, .inr ⟨k, rfl, by omega, ?_⟩⟩, by simp only []; omega⟩
          rw [hstep, e1]; simp [hk']
        · omega
      · have hn' : ¬ el < 0 := by simpa using hn
        rcases hel with ⟨e1, rfl⟩ | ⟨e, rfl, he1, he2⟩
        · omega
        · rw [wrap_nat (by omega), wrap_nat (by omega)]
          refine ⟨⟨k + 1, rfl, by omega, rfl, by rw [hstep]; simp, .inr ⟨e, rfl, by omega, ?_⟩⟩, by simp only []; omega⟩
          rw [hstep, ← he2]
          have : e < op'.length := by omega
          cases hh : ofPeer peer (op'.take k) with
          | nil => rw [hh] at he2; simp [this] at he2
          | cons y ys => rfl
    · have he' : op'[k].1 ≠ peer := by simpa using he
      rw [if_neg he', List.append_nil] at hstep
      rw [wrap_nat (by omega)]
      refine ⟨⟨k + 1, rfl, by omega, rfl, by rw [hstep], ?_⟩, by simp only []; omega⟩
      rw [hstep]
      exact hel.imp id fun ⟨e, e1, e2, e3⟩ => ⟨e, e1, by omega, e3⟩
  · have hk' : ¬ k < op'.length := by rw [hl']; simpa using hc
    rw [List.take_of_length_le (by omega)] at hel ⊢
    refine ⟨_, hR.blk.rd1 rfl, condK_i (fun hs => ?_) (fun hs => ?_)⟩
    · have hs' : ((ofPeer peer op').length : Int) ≤ sess := by simpa using hs
      rw [if_pos hs']
      exact ⟨rfl, _, ⟨_, _, hR⟩, hSx, hm04⟩
    · have hs' : ¬ ((ofPeer peer op').length : Int) ≤ sess := by simpa using hs
      rw [if_neg hs']
      rcases hel with ⟨e1, _⟩ | ⟨e, rfl, he1, he2⟩
      · exact absurd e1 hne
      have hel : e < op'.length := by omega
      obtain ⟨a, ha, hrd⟩ := pr_at hR.o1.rd hel
      refine ⟨s', hR.blk.rd1 rfl, ⟨by omega, by omega⟩, ?_⟩
      rw [ha]
      have hg : ((ofPeer peer op').headD (0, 0)).2 = op'[e].2 := by
        rw [List.headD_eq_head?_getD, he2]; simp [hel]
      rw [hg]
      refine ⟨⟨by omega, by omega⟩, _, rd_sub hrd (j := 1) rfl, callK_ret (c12r (peer := peer) (n := op'[e].2) ⟨_, _, hR⟩ (by omega)) ?_⟩
      rintro v w6 ⟨rfl, S6, hR6, hS6, hm6⟩
      refine ⟨rfl, rfl, S6, hR6, fun x hx => ?_, ?_⟩
      · rcases hS6 x hx with e | e
        · exact hSx x e
        · right; exact Nat.le_trans hm04.size e
      · exact hm04.trans hm6 (fun _ _ e => e) fun x hx e => (hSx x e).elim id fun e => by omega
end Go.Proofs.Ytnecbkjpijiopaa
