/- TableEnds: the plain law, to its end: what a play's history is. -/
import Derived.Test.YtdflfjcnogokgaaTP
set_option linter.unusedVariables false
set_option linter.unusedSimpArgs false
namespace Go.Proofs.Ytdflfjcnogokgaa.PTableEnds
open Go.RowKit Go.Proofs.YtdflfjcnogokgaaW.PrintWords Go.Proofs.YtdflfjcnogokgaaW.PrintLast Go.Proofs.YtdflfjcnogokgaaW.PrintMore
open Go.FT Go.MuLone

theorem rd_L3_get {l0 : List (List S31)} {m : Nat} (hm : m < l0.length) : rd_L3 l0 (m : Int) = l0[m] := by simp [rd_L3, List.getD_eq_getElem?_getD, hm]
theorem Inv.start_ (cl0 : List (List S31)) : Inv cl0 (start cl0) := by
  refine ⟨CI_start cl0, by simp [start], fun z hz => by simp [start] at hz, fun i b hi => by simp [start] at hi, ?_, fun m c hc => ?_, ⟨0, fun i hi => by simp [start], Or.inl ⟨rfl, fun c hc => ?_⟩⟩⟩
  · have : opened (start cl0).cls = 0 := by
      unfold opened
      rw [List.length_eq_zero_iff, List.filter_eq_nil_iff]
      intro c hc
      simp only [start, List.mem_map] at hc
      obtain ⟨l, _, rfl⟩ := hc
      simp [newCl]
    simp [start, begs, nds] at this ⊢
    omega
  · have hm := (List.getElem?_eq_some_iff.1 hc).1
    simp only [start, List.length_map] at hm
    rw [rd_L3_get hm]
    simp only [start, List.getElem?_map, List.getElem?_eq_getElem hm, Option.map_some, Option.some.injEq] at hc
    subst hc
    simp [start, opsB, ended, newCl]
  · simp only [start, List.mem_map] at hc
    obtain ⟨l, _, rfl⟩ := hc
    rfl
def Chosen (S : PS) (n : Int) : Prop := (n < 0 ∧ ∀ k, k < S.cls.length → canAt S.lk S.cls k = false) ∨ ∃ m : Nat, n = (m : Int) ∧ canAt S.lk S.cls m = true
theorem chosen_next (S : PS) (script : List Int) (last : Int) : Chosen S (pnext S script last).1 := by
  unfold pnext
  rcases ppick_ok (canAt S.lk S.cls) S.cls.length script last with h | ⟨m, h, hm, hp⟩
  · exact Or.inl ⟨by omega, ppick_no (script := script) (last := last) (by omega)⟩
  · exact Or.inr ⟨m, h, hp⟩
structure Fin_ (cl0 : List (List S31)) (S : PS) (L : Nat) : Prop where
  inv : Inv cl0 S
  done : ∀ c ∈ S.cls, c.ops = []
  len : S.hist.length ≤ L
theorem prun_fin (cl0 : List (List S31)) (L : Nat) : ∀ (f : Nat) (S : PS) (script : List Int) (n : Int), Inv cl0 S → left S < f → S.hist.length + left S ≤ L → Chosen S n → Fin_ cl0 (prun f S script n) L
  | 0, S, script, n, h, hf, hL, hn => by omega
  | f + 1, S, script, n, h, hf, hL, hn => by
    rcases hn with ⟨hn, hno⟩ | ⟨m, rfl, hp⟩
    · rw [prun, if_pos hn]
      exact ⟨h, h.free hno, by omega⟩
    · rw [prun, if_neg (by omega), Int.toNat_natCast]
      have hst := h.step hp 0
      unfold canAt at hp
      cases hc : S.cls[m]? with
      | none => rw [hc] at hp; cases hp
      | some c =>
        rw [hc] at hp
        simp only [pcan] at hp
        cases hx : c.ops with
        | nil => rw [hx] at hp; cases hp
        | cons x rest =>
          have hl := pstep_left S m 0 c x rest hc hx (h.ci c (List.mem_of_getElem? hc))
          have hh := pstep_hist S m 0
          exact prun_fin cl0 L f _ _ _ hst (by omega) (by omega) (chosen_next _ _ _)
theorem range_filter (h : List S44) (p : S44 → Bool) : ∀ n, n ≤ h.length → ((List.range n).filter (fun j : Nat => p (rd_T44 h (j : Int)))).length = ((h.take n).filter p).length
  | 0, _ => by simp
  | n + 1, hn => by
    have ih := range_filter h p n (by omega)
    have hr : rd_T44 h (n : Int) = h[n] := by simp [rd_T44, List.getD_eq_getElem?_getD, show n < h.length by omega]
    rw [List.range_succ, List.filter_append, List.length_append, ih, List.take_add_one, List.getElem?_eq_getElem (by omega)]
    rw [Option.toList_some, List.filter_append, List.length_append]
    congr 1
    simp only [List.filter_cons, List.filter_nil, hr]
    split <;> rfl
theorem mine_upto (h : List S44) (e : Nat → Nat) (m : Nat) : ∀ n, n ≤ h.length → mine h (callsTo h e n) m = opsB (h.take n) m
  | 0, _ => by simp [callsTo, mine, opsB]
  | n + 1, hn => by
    have ih := mine_upto h e m n (by omega)
    have hr : rd_T44 h (n : Int) = h[n] := by simp [rd_T44, List.getD_eq_getElem?_getD, show n < h.length by omega]
    have ht : h.take (n + 1) = h.take n ++ [h[n]] := by rw [List.take_add_one, List.getElem?_eq_getElem (by omega)]; rfl
    have hco : (rd_T44 h (callOf h e n).f0) = h[n] := hr
    by_cases hb : (h[n]).f1 = true
    · rw [callsTo_yes h e n (by rw [hr]; exact hb), ht]
      unfold mine opsB at ih ⊢
      rw [List.filter_append, List.map_append, ih, List.filter_append, List.map_append]
      congr 1
      simp only [List.filter_cons, List.filter_nil, hco, hb, Bool.and_true]
      split
      · simp [callOf, hr]
      · rfl
    · have hb' : (h[n]).f1 = false := by simpa using hb
      rw [callsTo_no h e n (by rw [hr]; exact hb'), ht, ih]
      unfold opsB
      rw [List.filter_append, List.map_append]
      simp [hb']
theorem Fin_.law {cl0 : List (List S31)} {S : PS} {L : Nat} (h : Fin_ cl0 S L) : ∃ e, LawOk cl0 S.hist e := by
  have hrd : ∀ i : Nat, i < S.hist.length → S.hist[i]? = some (rd_T44 S.hist (i : Int)) := fun i hi => by simp [rd_T44, List.getD_eq_getElem?_getD, hi]
  have hm : ∀ i : Nat, ∃ k : Nat, i < S.hist.length → (rd_T44 S.hist (i : Int)).f1 = true → Matched S.hist i (rd_T44 S.hist (i : Int)) k := fun i => by
    by_cases hi : i < S.hist.length
    · by_cases hb : (rd_T44 S.hist (i : Int)).f1 = true
      · rcases h.inv.mat i _ (hrd i hi) hb with ⟨k, hk⟩ | ⟨m, c, x, rest, _, h2, _, h4, _⟩
        · exact ⟨k, fun _ _ => hk⟩
        · rw [h.done c (List.mem_of_getElem? h2)] at h4; cases h4
      · exact ⟨0, fun _ h => absurd h hb⟩
    · exact ⟨0, fun h => absurd h hi⟩
  have hop : opened S.cls = 0 := by
    unfold opened
    rw [List.length_eq_zero_iff, List.filter_eq_nil_iff]
    intro c hc
    rw [(h.inv.ci c hc).over (h.done c hc)]
    simp
  refine ⟨fun i => Classical.choose (hm i), ⟨⟨fun i hi hb => ?_, ?_⟩, fun i hi hb => ?_, fun m hml => ?_⟩⟩
  · obtain ⟨h1, ⟨y, h2, h3, h4, h5⟩, h6⟩ := Classical.choose_spec (hm i) hi hb
    have hk := (List.getElem?_eq_some_iff.1 h2).1
    have hy := hrd _ hk
    rw [h2] at hy
    injection hy with hy
    rw [← hy]
    exact ⟨h1, hk, h3, h4, h5, fun j hj hjk => h6 j _ hj hjk (hrd j (by omega))⟩
  · have h1 := range_filter S.hist (·.f1) S.hist.length (Nat.le_refl _)
    have h2 := range_filter S.hist (fun x => !x.f1) S.hist.length (Nat.le_refl _)
    rw [List.take_length] at h1 h2
    have h3 := h.inv.cnt
    unfold begs nds at h3
    unfold endsTo callsTo
    rw [List.length_map, h1, h2]
    omega
  · exact h.inv.rng _ (List.mem_of_getElem? (hrd i hi))
  · rw [mine_upto _ _ _ _ (Nat.le_refl _), List.take_length]
    have hml' : m < S.cls.length := by rw [h.inv.len]; exact hml
    have := h.inv.ops m S.cls[m] (List.getElem?_eq_getElem hml')
    have hd := h.done _ (List.getElem_mem hml')
    have hb := (h.inv.ci _ (List.getElem_mem hml')).over hd
    simp only [ended, hb, hd] at this
    simpa using this
theorem pplay_law (l0 : List (List S31)) (l1 : List Int) (h64 : l0.length ≤ 64) : (∃ e, LawOk l0 (pplay l0 l1) e) := by
  unfold pplay
  rw [if_neg (by omega)]
  exact (prun_fin l0 (left (start l0)) _ _ _ _ (Inv.start_ l0) (Nat.lt_succ_self _) (by simp [start]) (chosen_next _ _ _)).law
theorem pplay_len (l0 : List (List S31)) (l1 : List Int) : (pplay l0 l1).length ≤ left (start l0) := by
  unfold pplay
  split
  · simp
  · exact (prun_fin l0 (left (start l0)) _ _ _ _ (Inv.start_ l0) (Nat.lt_succ_self _) (by simp [start]) (chosen_next _ _ _)).len

/-! ### long -/
def tot (l0 : List (List S31)) (i : Nat) : Nat := l0.length + ((l0.take i).map List.length).sum
theorem wts_le (l : List S31) : wts l ≤ 11 * l.length := by
  induction l with
  | nil => simp [wts]
  | cons x l ih =>
    have : wt x ≤ 11 := by unfold wt; split <;> omega
    simp only [wts, List.map_cons, List.sum_cons, List.length_cons] at ih ⊢
    omega
theorem left_start_le (l0 : List (List S31)) : left (start l0) ≤ 11 * (l0.map List.length).sum := by
  unfold left start
  simp only [List.map_map]
  induction l0 with
  | nil => simp
  | cons l l0 ih =>
    simp only [List.map_cons, List.sum_cons, Function.comp] at ih ⊢
    have h1 : remC (newCl l) ≤ wts (l.filter okOp) := by
      unfold remC newCl
      simp only
      cases l.filter okOp with
      | nil => simp
      | cons x r => simp only [wts, List.map_cons, List.sum_cons]; omega
    have h2 := wts_le (l.filter okOp)
    have h3 := List.length_filter_le okOp l
    have h4 : 11 * (l.filter okOp).length ≤ 11 * l.length := Nat.mul_le_mul_left _ h3
    have := ih
    simp only [Function.comp_def] at this ⊢
    omega
theorem tot_succ (l0 : List (List S31)) (i : Nat) (hi : i < l0.length) : tot l0 (i + 1) = tot l0 i + (rd_L3 l0 (i : Int)).length := by
  unfold tot
  rw [List.take_add_one, List.getElem?_eq_getElem hi, rd_L3_get hi, Option.toList_some, List.map_append, List.sum_append]
  simp only [List.map_cons, List.map_nil, List.sum_cons, List.sum_nil]
  omega
/-- long ends; and if it says no, the calls are few. -/
theorem long_ends (l0 : List (List S31)) (l1 : List Int) (h0 : ∀ l ∈ l0, l.length ≤ 9223372036854775807 - 2147483648) : ∀ (d i : Nat), d + i = l0.length → (tot l0 i : Int) ≤ 9223372036854775807 → ∃ r, fuguelaw11_long.l0 (d + 1) l0 l1 (tot l0 i : Int) i = some r ∧ (r = false → tot l0 l0.length ≤ 2147483647)
  | 0, i, hd, ht => by
    have : i = l0.length := by omega
    subst this
    unfold fuguelaw11_long.l0
    rw [if_neg (by omega)]
    simp only [fugueref00_Long.f, Option.bind_some]
    by_cases hT : (tot l0 l0.length : Int) > 2147483647
    · exact ⟨true, by simp [hT], fun h => by cases h⟩
    · exact ⟨decide ((l1.length : Int) > 2147483647), by simp only [hT, decide_false, Bool.false_eq_true, if_false], fun _ => by omega⟩
  | d + 1, i, hd, ht => by
    unfold fuguelaw11_long.l0
    have hi : i < l0.length := by omega
    rw [if_pos (by omega)]
    simp only [fugueref00_Long.f, Option.bind_some]
    by_cases hT : (tot l0 i : Int) > 2147483647
    · exact ⟨true, by simp [hT], fun h => by cases h⟩
    · have hlen : (rd_L3 l0 (i : Int)).length ≤ 9223372036854775807 - 2147483648 := by rw [rd_L3_get hi]; exact h0 _ (List.getElem_mem hi)
      have hts := tot_succ l0 i hi
      have hge : l0.length ≤ tot l0 i := by unfold tot; omega
      obtain ⟨r, hr1, hr2⟩ := long_ends l0 l1 h0 d (i + 1) (by omega) (by omega)
      refine ⟨r, ?_, hr2⟩
      simp only [hT, decide_false, Bool.false_eq_true, if_false]
      rw [if_pos (by omega)]
      have e1 : wrap64 ((tot l0 i : Int) + ((rd_L3 l0 (i : Int)).length : Int)) = (tot l0 (i + 1) : Int) := by
        rw [Go.IntWalk.wrap64_in _ ⟨by omega, by omega⟩]; omega
      have e2 : wrap64 ((i : Int) + 1) = ((i + 1 : Nat) : Int) := by
        rw [Go.IntWalk.wrap64_in _ ⟨by omega, by omega⟩]; omega
      rw [e1, e2]
      exact hr1
theorem long_law (l0 : List (List S31)) (l1 : List Int) (h0 : ∀ l ∈ l0, l.length ≤ 9223372036854775807 - 2147483648) (hl : l0.length ≤ 9223372036854775807) :
    ∃ k r, fuguelaw11_long.f k l0 l1 = some r ∧ (r = false → (left (start l0) + 1) * 120 ≤ 140737488355328 ∧ ((pplay l0 l1).length + 1) * 120 ≤ 140737488355328) := by
  have e0 : tot l0 0 = l0.length := by simp [tot]
  obtain ⟨r, h1, h2⟩ := long_ends l0 l1 h0 l0.length 0 (by omega) (by rw [e0]; omega)
  rw [e0] at h1
  refine ⟨_, r, h1, fun hr => ?_⟩
  have h3 := h2 hr
  have h4 := left_start_le l0
  have h5 := pplay_len l0 l1
  unfold tot at h3
  rw [List.take_length] at h3
  omega
end Go.Proofs.Ytdflfjcnogokgaa.PTableEnds
