/- Maps keyed by int, written only at new keys: the block told by the list of its entries in the order in which they came. -/
import Derived.Maps.RangeWalk
import Derived.Maps.OwnSet
set_option linter.unusedVariables false
set_option linter.unusedSimpArgs false
namespace Go.FT
open Go
open Go.ChangeMaps (setBlock)

/-- The walk stands here. -/
structure Stopped (p : Prop) : Prop where
  out : p
theorem Stopped.go {p : Prop} (h : Stopped p) : p := h.out

def mkE : Nat → List (Int × Value) → List MapEntry
  | _, [] => []
  | n, p :: r => { key := .int .i64 p.1, val := p.2, born := n } :: mkE (n + 1) r
def imap (L : List (Int × Value)) : Obj := .map (mkE 0 L).toArray L.length
def ilook (L : List (Int × Value)) (k : Int) : Option Value := (L.find? (fun p => p.1 == k)).map (·.2)

theorem mkE_length (n : Nat) (L : List (Int × Value)) : (mkE n L).length = L.length := by
  induction L generalizing n with
  | nil => rfl
  | cons p r ih => simp [mkE, ih]
theorem mkE_snoc (n : Nat) (L : List (Int × Value)) (k : Int) (v : Value) : mkE n (L ++ [(k, v)]) = mkE n L ++ [{ key := .int .i64 k, val := v, born := n + L.length }] := by
  induction L generalizing n with
  | nil => simp [mkE]
  | cons p r ih => simp [mkE, ih]; omega
theorem mkE_born (n : Nat) (L : List (Int × Value)) : (mkE n L).map (·.born) = List.range' n L.length := by
  induction L generalizing n with
  | nil => rfl
  | cons p r ih => simp [mkE, ih, List.range'_succ]
theorem mkE_get (n : Nat) (L : List (Int × Value)) (i : Nat) : (mkE n L)[i]? = (L[i]?).map (fun p => { key := .int .i64 p.1, val := p.2, born := n + i }) := by
  induction L generalizing n i with
  | nil => simp [mkE]
  | cons p r ih =>
    cases i with
    | zero => simp [mkE]
    | succ i => simp [mkE, ih]; congr 1; funext q; congr 1; omega

theorem findNow_mkE (κ : IntKind) (k : Int) (n i : Nat) (L : List (Int × Value)) : ∃ j, Instr.findNow (.int κ) (.int .i64 k) (mkE n L) i = some ((ilook L k).map (fun v => (j, v))) := by
  induction L generalizing n i with
  | nil => exact ⟨0, rfl⟩
  | cons p r ih =>
    simp only [mkE, Instr.findNow, Instr.sameNow, if_true]
    by_cases h : k = p.1
    · subst h
      exact ⟨i, by simp [ilook]⟩
    · have h1 : (k == p.1) = false := by simpa using h
      have h2 : (p.1 == k) = false := by simpa using fun e => h e.symm
      obtain ⟨j, hj⟩ := ih (n + 1) (i + 1)
      exact ⟨j, by simp [h1, hj, ilook, List.find?_cons, h2]⟩


variable {P : Program}
theorem run_checkKey_i (w : World) (em : Bool) (n : Nat) (kt : TypeId) (κ : IntKind) (hk : P.underlying kt = some (.int κ)) (q : IntKind) (k : Int) :
    (Instr.checkKey em (n + 1) kt (.int q k)).run P w = .ok () w := by
  rw [Instr.checkKey]
  simp [run_underlying hk, Sem.run, Result.andThen]
theorem run_look (w : World) (t kt et : TypeId) (κ : IntKind) (z : Value) (b : Nat) (L : List (Int × Value)) (k : Int)
    (ht : P.underlying t = some (.map kt et)) (hk : P.underlying kt = some (.int κ)) (hz : (zeroValue et).run P w = .ok z w) (hb : w.heap[b]? = some (imap L)) :
    (Instr.lookup t (.map (some b)) (.int .i64 k) true).run P w = .ok (.tuple #[(ilook L k).getD z, .bool (ilook L k).isSome]) w := by
  obtain ⟨j, hj⟩ := findNow_mkE κ k 0 0 L
  have hc := fun em => run_checkKey_i w em 9999 kt κ hk .i64 k
  simp only [imap] at hb
  unfold Instr.lookup Instr.findKey
  cases h : ilook L k <;> rw [h] at hj <;> simp [run_underlying ht, run_underlying hk, MapKept.run_getObj_map hb, hc, Result.andThen, hj, hz]
theorem run_put_new (w : World) (t kt et : TypeId) (κ : IntKind) (b : Nat) (L : List (Int × Value)) (k : Int) (v : Value)
    (ht : P.underlying t = some (.map kt et)) (hk : P.underlying kt = some (.int κ)) (hb : w.heap[b]? = some (imap L)) (hn : ilook L k = none) :
    (Instr.mapUpdate t (.map (some b)) (.int .i64 k) v).run P w = .ok () (setBlock w b (imap (L ++ [(k, v)]))) := by
  obtain ⟨j, hj⟩ := findNow_mkE κ k 0 0 L
  rw [hn] at hj
  have hc := fun em => run_checkKey_i w em 9999 kt κ hk .i64 k
  simp only [imap] at hb
  unfold Instr.mapUpdate Instr.findKey
  simp [run_underlying ht, run_underlying hk, MapKept.run_getObj_map hb, hc, Result.andThen, hj, MapKept.run_setObj_map _ hb, setBlock, imap, mkE_snoc]


theorem mkE_mem {n : Nat} {L : List (Int × Value)} {e : MapEntry} (h : e ∈ mkE n L) : ∃ i p, L[i]? = some p ∧ e = { key := .int .i64 p.1, val := p.2, born := n + i } := by
  obtain ⟨i, hi⟩ := List.getElem?_of_mem h
  rw [mkE_get] at hi
  obtain ⟨p, hp, rfl⟩ := Option.map_eq_some_iff.1 hi
  exact ⟨i, p, hp, rfl⟩

/-- THE STEP of 'for k := range m' over such a map, nothing laid into it since the loop began: 'seen': the places that came. -/
theorem wpList_next_im (w : World) {ops : Array Oper} {rest : List Oper} {o : Oper} {a : Act} {Q : Exit → Act → World → Prop} (hg : o.guard = none) (it : Operand) (hop : o.op = Op.next it false) (b r : Nat) (L : List (Int × Value)) (seen : List Nat)
    (hit : a.eval it = .pointer (some ⟨r, 0, none⟩)) (hr : w.heap[r]? = some (.mapIter (some b) L.length seen.toArray L.length)) (hb : w.heap[b]? = some (imap L)) (hne : b ≠ r)
    (hDone : (∀ i, i < L.length → i ∈ seen) → wpList P ops Q rest (a.put o.dst (.tuple #[.bool false])) w)
    (hMore : ∀ i p w', i ∉ seen → L[i]? = some p → w'.heap[r]? = some (.mapIter (some b) L.length (seen ++ [i]).toArray L.length) → w.grownBy w' (some r) → w'.heap.size = w.heap.size →
      (Instr.entry (.pointer (some ⟨r, 0, none⟩))).run P w' = .ok (.tuple #[.int .i64 p.1, p.2]) w' → wpList P ops Q rest (a.put o.dst (.tuple #[.bool true, .int .i64 p.1, p.2])) w') :
    wpList P ops Q (o :: rest) a w := by
  refine wpList_plain hg fun K' hK' => ?_
  unfold Oper.wp
  have hold : ∀ x ∈ ((mkE 0 L).toArray).toList, x.born < L.length := by
    intro x hx
    obtain ⟨i, p, hp, rfl⟩ := mkE_mem (by simpa using hx)
    have := (List.getElem?_eq_some_iff.1 hp).1
    simpa using this
  rcases run_next_at (P := P) w o.type r b L.length L.length seen.toArray (mkE 0 L).toArray L.length hr hb hold (Nat.le_refl _) with ⟨h0, hrun⟩ | ⟨e, he, w1, hw1, hrun⟩
  · simp [execOp, hop, hit, hrun, Result.andThen]
    refine hK' _ _ (hDone fun i hi => ?_)
    have h1 : leftOf (mkE 0 L).toArray seen.toArray = #[] := Array.eq_empty_of_size_eq_zero h0
    unfold leftOf at h1
    rw [Array.filter_eq_empty_iff] at h1
    have h2 := h1 { key := .int .i64 L[i].1, val := L[i].2, born := 0 + i } (by
      rw [List.mem_toArray]
      exact List.mem_of_getElem? (i := i) (by rw [mkE_get, List.getElem?_eq_getElem hi]; rfl))
    simpa using h2
  · have he2 : e ∈ mkE 0 L ∧ e.born ∉ seen := by
      simp only [leftOf, Array.mem_toList_iff, Array.mem_filter, List.mem_toArray] at he
      exact ⟨he.1, by simpa using he.2⟩
    obtain ⟨i, p, hp, rfl⟩ := mkE_mem he2.1
    simp only [Nat.zero_add] at he2 hrun
    have hheap : w1.heap = w.heap ∧ w1.os = w.os ∧ w1.tape = w.tape ∧ w1.output = w.output := by rcases hw1 with rfl | rfl <;> exact ⟨rfl, rfl, rfl, rfl⟩
    have hr1 : w1.heap[r]? = some (.mapIter (some b) L.length seen.toArray L.length) := by rw [hheap.1]; exact hr
    have hrl := (Array.getElem?_eq_some_iff.1 hr1).1
    have hpu : seen.toArray.push i = (seen ++ [i]).toArray := by simp
    rw [hpu] at hrun
    have e1 : (setBlock w1 r (.mapIter (some b) L.length (seen ++ [i]).toArray L.length)).heap[r]? = some (.mapIter (some b) L.length (seen ++ [i]).toArray L.length) := by
      simp [setBlock, hrl]
    have e2 : (setBlock w1 r (.mapIter (some b) L.length (seen ++ [i]).toArray L.length)).heap[b]? = some (imap L) := by
      simp only [setBlock, Array.getElem?_setIfInBounds]
      rw [if_neg (fun h => hne h.symm), hheap.1]
      exact hb
    simp [execOp, hop, hit, hrun, Result.andThen]
    refine hK' _ _ (hMore i p _ he2.2 hp e1 ⟨hheap.2.1, hheap.2.2.1, hheap.2.2.2, by simp [setBlock, hheap.1], fun k hk hkr => ?_⟩ (by simp [setBlock, hheap.1]) ?_)
    · simp only [setBlock, Array.getElem?_setIfInBounds]
      rw [if_neg (fun h => hkr (by rw [h])), hheap.1]
    · have := run_entry_at (P := P) _ r b L.length seen.toArray (mkE 0 L).toArray L.length { key := .int .i64 p.1, val := p.2, born := i } (by rw [e1, ← hpu]) e2 (by simpa using he2.1) (by
        simp only [mkE_born]
        exact List.nodup_range')
      exact this

#print axioms run_look
#print axioms run_put_new
end Go.FT
