/- The stage: a call takes effect. -/
import Derived.Test.YtdflfjcnogokgaaTE
import Derived.Lib.SliceRun
set_option linter.unusedVariables false
set_option linter.unusedSimpArgs false
namespace Go.Proofs.Ytdflfjcnogokgaa.PTableEnds
open Go.RowKit Go.Proofs.YtdflfjcnogokgaaW.PrintWords Go.Proofs.YtdflfjcnogokgaaW.PrintLast Go.Proofs.YtdflfjcnogokgaaW.PrintMore
open Go.FT Go.MuLone
open Go.ChangeMaps (setBlock)

/-- Of what was there only the blocks of S have turned. -/
structure Chg (S : Nat → Prop) (w w' : World) : Prop where
  os : w'.os = w.os
  tape : w'.tape = w.tape
  output : w'.output = w.output
  size : w.heap.size ≤ w'.heap.size
  block : ∀ k, k < w.heap.size → ¬ S k → w'.heap[k]? = w.heap[k]?
theorem Chg.refl (S : Nat → Prop) (w : World) : Chg S w w := ⟨rfl, rfl, rfl, Nat.le_refl _, fun _ _ _ => rfl⟩
theorem Chg.trans {S : Nat → Prop} {a b c : World} (h : Chg S a b) (k : Chg S b c) : Chg S a c :=
  ⟨k.os.trans h.os, k.tape.trans h.tape, k.output.trans h.output, Nat.le_trans h.size k.size, fun i hi hn => (k.block i (Nat.lt_of_lt_of_le hi h.size) hn).trans (h.block i hi hn)⟩
theorem Chg.mono {S S' : Nat → Prop} {a b : World} (h : Chg S a b) (hs : ∀ k, S k → S' k) : Chg S' a b :=
  ⟨h.os, h.tape, h.output, h.size, fun i hi hn => h.block i hi (fun hk => hn (hs i hk))⟩
theorem Chg.of_below {S : Nat → Prop} {a b : World} (h : Below a.heap.size a b) : Chg S a b := ⟨h.os, h.tape, h.output, h.size, fun i hi _ => h.block i hi⟩
theorem Chg.of_grown {S : Nat → Prop} {a b : World} {row : Option Nat} (h : a.grownBy b row) (hr : ∀ k, row = some k → S k) : Chg S a b :=
  ⟨h.os, h.tape, h.output, h.size, fun i hi hn => h.block i hi (fun e => hn (hr i e.symm))⟩
theorem Chg.set {S : Nat → Prop} (w : World) (p : Addr) (v : Value) (hp : S p.block) : Chg S w (w.setCell p v) :=
  ⟨rfl, rfl, rfl, by rw [size_set]; exact Nat.le_refl _, fun i hi hn => Below.heap_setCell _ _ _ _ (fun e => hn (e ▸ hp))⟩
theorem Chg.drewN {S : Nat → Prop} {a b : World} (h : Chg S a b) (n : Nat) : Chg S a (b.drewN n) := ⟨h.os, h.tape, h.output, h.size, h.block⟩
theorem Chg.alloc {S : Nat → Prop} {a b : World} (h : Chg S a b) (o : Obj) : Chg S a (b.alloc o) :=
  h.trans ⟨rfl, rfl, rfl, by rw [size_alloc]; omega, fun i hi _ => Below.heap_alloc _ _ _ hi⟩
theorem SameT.of_chg {S : Nat → Prop} {w w' : World} {ts : List Nat} (h : Chg S w w') (hs : ∀ b (c : Array Value) t, t ∈ ts → w.heap[b]? = some (Obj.cells c t (0, 0)) → ¬ S b) : SameT w w' ts :=
  fun t ht b c hb => h.block b (lt_of_heap hb) (hs b c t ht hb)

/-- The answer of a call. -/
def effR (T : Nat → List Ent) (x : S31) : S42 :=
  if x.f0 = 1 then ⟨(getE (T (plc x.f1)) x.f1).isNone, ⟨#[]⟩, [], []⟩
  else if x.f0 = 2 then ⟨(getE (T (plc x.f1)) x.f1).isSome, tabVal T x.f1, [], []⟩
  else ⟨true, ⟨#[]⟩, tabKeys T, tabVals T⟩
def effT (T : Nat → List Ent) (x : S31) (nb : Nat) : Nat → List Ent :=
  if x.f0 = 1 then (if (getE (T (plc x.f1)) x.f1).isNone then pubT T x.f1 nb x.f2 else T) else T

theorem cell_chg {S : Nat → Prop} {w w' : World} (h : Chg S w w') {b : Nat} {x : Obj} (hb : w.heap[b]? = some x) (hn : ¬ S b) : w'.heap[b]? = some x := (h.block b (lt_of_heap hb) hn).trans hb

theorem cell_alloc {w : World} {a : Addr} {v : Value} (h : w.cell? a = some v) (O : Obj) : (w.alloc O).cell? a = some v := by
  rw [World.cell?_of_block (Below.heap_alloc w O a.block (World.block_lt_of_cell? w a h))]; exact h
/-- What the walks read of a client that has a call. -/
theorem ClAt.open_ {w : World} {base b : Nat} {c : PCl} {ov rv : Value} {x : S31} {rest : List S31} (h : ClAt w base b c ov rv) (hx : c.ops = x :: rest) :
    ∃ ob o N cap, ov = .slice (some ⟨ob, o, none⟩) N cap ∧ 0 < N ∧ ob < w.heap.size ∧ w.cell? ⟨b, 0, none⟩ = some (.slice (some ⟨ob, o, none⟩) N cap) ∧ w.cell? ⟨b, 1, none⟩ = some (.bool c.begun) ∧ w.cell? ⟨b, 2, none⟩ = some (.int .i64 c.locked) ∧ w.cell? ⟨b, 3, none⟩ = some rv ∧
      (∀ o, w.frozen? ⟨b, o, none⟩ = false) ∧ w.cell? ⟨ob, o, none⟩ = some (.int .i64 x.f0) ∧ w.cell? ⟨ob, o + 1, none⟩ = some (.int .i64 x.f1) ∧ w.cell? ⟨ob, o + 2, none⟩ = some (.string x.f2) ∧ N = rest.length + 1 ∧ N ≤ cap ∧ cap ≤ 9223372036854775807 ∧ ob ≠ b := by
  obtain ⟨hcells, hops, hrep, hle⟩ := h
  rw [hx] at hops
  obtain ⟨A, cap, rfl, hcap, hm, hat⟩ := hops
  obtain ⟨ob, o, cells, rfl, hob, hxx⟩ := hat (by simp)
  have hx0 := hxx 0 x rfl
  simp only [Nat.zero_mul, Nat.add_zero] at hx0
  obtain ⟨x0, x1, x2⟩ := hx0
  refine ⟨ob, o, (x :: rest).length, cap, rfl, by simp, lt_of_heap hob, (cell_of_blk hcells 0).trans rfl, (cell_of_blk hcells 1).trans rfl, (cell_of_blk hcells 2).trans rfl, (cell_of_blk hcells 3).trans rfl, fun o => frozen_of_blk hcells o, (cell_of_blk hob _).trans x0, (cell_of_blk hob _).trans x1, (cell_of_blk hob _).trans x2, rfl, hcap, hm, ?_⟩
  intro e
  subst e
  rw [hob] at hcells
  cases hcells

theorem SameT.set {w : World} {b : Nat} {c : Array Value} {t : Nat} {z : Nat × Nat} (hb : w.heap[b]? = some (Obj.cells c t z)) (o : Nat) (v : Value) {ts : List Nat} (ht : t ∉ ts) : SameT w (w.setCell ⟨b, o, none⟩ v) ts :=
  fun q hq g cs hg => Below.heap_setCell _ _ _ _ (fun e => by
    have e' : g = b := e
    subst e'
    rw [hb] at hg
    injection hg with hg
    injection hg with _ h2
    exact ht (h2 ▸ hq))
theorem SameT.alloc (w : World) (O : Obj) (ts : List Nat) : SameT w (w.alloc O) ts := fun _ _ b c hb => Below.heap_alloc _ _ _ (lt_of_heap hb)
theorem ClAt.answered {W : World} {base b : Nat} {c : PCl} {ov rv : Value} (h : ClAt W base b c ov rv) (r : S42) (v2 v3 : Value) (hbase : base ≤ W.heap.size) (R2 : (Kd.int .i64).R 3 W base (fun _ => True) v2 r.f2) (R3 : Kd.string.R 9 W base (fun _ => True) v3 r.f3) :
    ClAt ((W.alloc (.cells #[.bool r.f0, .string r.f1, v2, v3] 42)).setCell ⟨b, 3, none⟩ (.pointer (some ⟨W.heap.size, 0, none⟩))) base b { c with reply := some r } ov (.pointer (some ⟨W.heap.size, 0, none⟩)) := by
  have hbl := lt_of_heap h.cells
  have hb1 := (Below.heap_alloc W (.cells #[.bool r.f0, .string r.f1, v2, v3] 42) b hbl).trans h.cells
  have hs : SameT W ((W.alloc (.cells #[.bool r.f0, .string r.f1, v2, v3] 42)).setCell ⟨b, 3, none⟩ (.pointer (some ⟨W.heap.size, 0, none⟩))) [31, 3, 9, 42] := (SameT.alloc _ _ _).trans (SameT.set hb1 _ _ (by decide))
  refine ⟨?_, h.ops.same hs (by simp), ⟨W.heap.size, v2, v3, rfl, ?_, R_same R2 hs (by intro q hq; simp [Kd.int, Kd.scalar] at hq; subst hq; decide), R_same R3 hs (by intro q hq; simp [Kd.string, Kd.scalar] at hq; subst hq; decide)⟩, h.le⟩
  · rw [heap_set_same hb1]; rfl
  · rw [Below.heap_setCell _ _ _ _ (by simp; omega), heap_alloc_at]

set_option maxRecDepth 100000 in
set_option maxHeartbeats 2000000 in
theorem effect_lookup (sb tb b base : Nat) (M : Nat → Nat) (T : Nat → List Ent) (lk : Nat → Bool) (clv hv ov rv : Value) (c : PCl) (x : S31) (rest : List S31) (w : World) (hst : w.heap[sb]? = some (.cells (stCells tb lk clv hv) 83 (0, 0)))
    (hcl : ClAt w base b c ov rv) (hx : c.ops = x :: rest) (hT : tabAt w tb M T) (h2 : x.f0 = 2) (hbase : base ≤ w.heap.size) :
    Calls Try.prog 66 #[.pointer (some ⟨sb, 0, none⟩), .pointer (some ⟨b, 0, none⟩)] w fun e w' => e = .returned (.tuple #[]) ∧ (∃ rv', ClAt w' base b { c with reply := some (effR T x) } ov rv') ∧ Chg (fun k => k = b) w w' := by
  obtain ⟨ob, o, N, cap, rfl, hN0, hobl, c0, _, _, c3, fb, k0, k1, k2, hNN, hNc, hcm, hobb⟩ := hcl.open_ hx
  rw [h2] at k0
  have f3 := fb 3
  have s0 : w.cell? ⟨sb, 0, none⟩ = some (.pointer (some ⟨tb, 0, none⟩)) := (cell_of_blk hst 0).trans rfl
  have s0a := cell_alloc s0
  have hpl8 : ((plc x.f1 : Nat) : Int) < 8 := by have := plc_lt x.f1; omega
  have HC := Aside0.mk hcl
  have HT := Aside0.mk hT
  have HB := Aside0.mk hbase
  have H2 := Aside0.mk h2
  clear hst hT hx hbase h2 hcl fb hNN hNc hobb hobl
  go_enter Try.func66, Try.ntmps66
  go_wp2
  go_quiet ((go_at_call 60; exact Calls.quiet_of_same (place_any _ _)))
  go_wp2_with (go_at_call 64; refine Stopped.go ?_)
  refine ⟨?_⟩
  have hBW : Below w.heap.size w ((w.alloc (Obj.cells #[Value.int IntKind.i64 2, Value.int IntKind.i64 x.f1, Value.string x.f2] 31)).drewN nq) := pw_below_drewN ((Below.refl _ _).alloc (Nat.le_refl _) _) nq
  generalize hW : ((w.alloc (Obj.cells #[Value.int IntKind.i64 2, Value.int IntKind.i64 x.f1, Value.string x.f2] 31)).drewN nq) = W1 at hBW ⊢
  have hT1 := HT.out.below hBW
  have hp := plc_lt x.f1
  have hk1 : W1.cell? ⟨tb, plc x.f1 * 3 + 2, none⟩ = some (.map (some (M (plc x.f1)))) := (cell_of_blk hT1.cells _).trans (tabCells_map _ _ _ hp)
  have hS := hT1.stripe _ hp
  have hbl := lt_of_heap HC.out.cells
  have w3 : W1.cell? ⟨b, 3, none⟩ = some rv := (hBW.cell (p := ⟨b, 3, none⟩) hbl).trans c3
  have w3a := cell_alloc w3
  have wf : ∀ O, (W1.alloc O).frozen? ⟨b, 3, none⟩ = false := fun O => by
    rw [World.frozen?_of_block (w := W1) (Below.heap_alloc W1 O b (Nat.lt_of_lt_of_le hbl hBW.size)), hBW.frozen (p := ⟨b, 3, none⟩) hbl]; exact f3
  have HBW := Aside0.mk hBW
  have HS := Aside0.mk hS
  clear hBW hT1 hS hp hW hbl s0 s0a
  refine (stripe_lookup tb (plc x.f1 * 3) (M (plc x.f1)) x.f1 (T (plc x.f1)) W1 hk1 HS.out).mono ?_
  rintro e w2 ⟨rfl, rfl⟩
  go_wp2
  go_end0
  have hB := HBW.out
  have hcl1 := HC.out.same (SameT.of_below hB [87, 31, 42, 3, 9]) (hB.block b (lt_of_heap HC.out.cells)) (by simp) (by simp) (by simp) (by simp)
  have hr : effR T x = ⟨(getE (T (plc x.f1)) x.f1).isSome, ((getE (T (plc x.f1)) x.f1).map (·.val)).getD ⟨#[]⟩, [], []⟩ := by
    simp [effR, H2.out, tabVal]
  have ha := hcl1.answered (effR T x) (.slice none 0 0) (.slice none 0 0) (Nat.le_trans HB.out hB.size) (by rw [hr]; exact Kd.R_nil _ _ _ _ _) (by rw [hr]; exact Kd.R_nil _ _ _ _ _)
  rw [hr] at ha
  rw [hr]
  exact ⟨rfl, ⟨_, ha⟩, ((Chg.of_below hB).alloc _).trans (Chg.set (S := fun k => k = b) _ _ _ rfl)⟩

theorem tabAt.chg {S : Nat → Prop} {w w' : World} {tb : Nat} {M : Nat → Nat} {T : Nat → List Ent} (h : tabAt w tb M T) (hc : Chg S w w') (h1 : ¬ S tb) (h2 : ∀ i, i < 8 → ¬ S (M i)) (h3 : ∀ b (c : Array Value), w.heap[b]? = some (Obj.cells c 162 (0, 0)) → ¬ S b) : tabAt w' tb M T :=
  ⟨cell_chg hc h.cells h1, fun i hi => (h.stripe i hi).move (hc.block _ (lt_of_heap (h.stripe i hi).1) (h2 i hi)) (fun b c hb => hc.block b (lt_of_heap hb) (h3 b c hb)), h.apart⟩
theorem tabAt.put {w w' : World} {tb : Nat} {M : Nat → Nat} {T : Nat → List Ent} (h : tabAt w tb M T) {p : Nat} (hp : p < 8) {L : List Ent} (hc : Chg (fun k => k = M p) w w') (hs : stripeAt w' (M p) L) : tabAt w' tb M (fun i => if i = p then L else T i) := by
  have hno : ∀ (b : Nat) (c : Array Value) t z, w.heap[b]? = some (Obj.cells c t z) → b ≠ M p := fun b c t z hb e => by
    subst e
    rw [(h.stripe p hp).1] at hb
    cases hb
  refine ⟨cell_chg hc h.cells (hno _ _ _ _ h.cells), fun i hi => ?_, h.apart⟩
  by_cases hi' : i = p
  · simp only [if_pos hi']; rw [hi']; exact hs
  · simp only [if_neg hi']
    exact (h.stripe i hi).move (hc.block _ (lt_of_heap (h.stripe i hi).1) (fun e => hi' (h.apart i p hi hp e))) (fun b c hb => hc.block b (lt_of_heap hb) (hno _ _ _ _ hb))
theorem pubT_eq (T : Nat → List Ent) (k : Int) (nb : Nat) (v : ByteArray) : pubT T k nb v = fun i => if i = plc k then T (plc k) ++ [⟨k, nb, v⟩] else T i := by
  funext i
  unfold pubT
  by_cases h : i = plc k
  · subst h; simp
  · simp [h]

set_option maxRecDepth 100000 in
set_option maxHeartbeats 2000000 in
theorem effect_publish_old (sb tb b base : Nat) (M : Nat → Nat) (T : Nat → List Ent) (lk : Nat → Bool) (clv hv ov rv : Value) (c : PCl) (x : S31) (rest : List S31) (w : World) (hst : w.heap[sb]? = some (.cells (stCells tb lk clv hv) 83 (0, 0)))
    (hcl : ClAt w base b c ov rv) (hx : c.ops = x :: rest) (hT : tabAt w tb M T) (h2 : x.f0 = 1) (e0 : Ent) (hg : getE (T (plc x.f1)) x.f1 = some e0) (hbase : base ≤ w.heap.size) :
    Calls Try.prog 66 #[.pointer (some ⟨sb, 0, none⟩), .pointer (some ⟨b, 0, none⟩)] w fun e w' => e = .returned (.tuple #[]) ∧ (∃ rv', ClAt w' base b { c with reply := some (effR T x) } ov rv') ∧ Chg (fun k => k = b) w w' := by
  obtain ⟨ob, o, N, cap, rfl, hN0, hobl, c0, _, _, c3, fb, k0, k1, k2, hNN, hNc, hcm, hobb⟩ := hcl.open_ hx
  rw [h2] at k0
  have f3 := fb 3
  have s0 : w.cell? ⟨sb, 0, none⟩ = some (.pointer (some ⟨tb, 0, none⟩)) := (cell_of_blk hst 0).trans rfl
  have s0a := cell_alloc s0
  have hpl8 : ((plc x.f1 : Nat) : Int) < 8 := by have := plc_lt x.f1; omega
  have HC := Aside0.mk hcl
  have HT := Aside0.mk hT
  have HB := Aside0.mk hbase
  have H2 := Aside0.mk h2
  have HG := Aside0.mk hg
  clear hst hT hx hbase hg h2 hcl fb hNN hNc hobb hobl
  go_enter Try.func66, Try.ntmps66
  go_wp2
  go_quiet ((go_at_call 60; exact Calls.quiet_of_same (place_any _ _)))
  go_wp2_with (go_at_call 63; refine Stopped.go ?_)
  refine ⟨?_⟩
  have hBW : Below w.heap.size w ((w.alloc (Obj.cells #[Value.int IntKind.i64 1, Value.int IntKind.i64 x.f1, Value.string x.f2] 31)).drewN nq) := pw_below_drewN ((Below.refl _ _).alloc (Nat.le_refl _) _) nq
  generalize hW : ((w.alloc (Obj.cells #[Value.int IntKind.i64 1, Value.int IntKind.i64 x.f1, Value.string x.f2] 31)).drewN nq) = W1 at hBW ⊢
  have hT1 := HT.out.below hBW
  have hp := plc_lt x.f1
  have hk1 : W1.cell? ⟨tb, plc x.f1 * 3 + 2, none⟩ = some (.map (some (M (plc x.f1)))) := (cell_of_blk hT1.cells _).trans (tabCells_map _ _ _ hp)
  have hS := hT1.stripe _ hp
  have hbl := lt_of_heap HC.out.cells
  have w3 : W1.cell? ⟨b, 3, none⟩ = some rv := (hBW.cell (p := ⟨b, 3, none⟩) hbl).trans c3
  have w3a := cell_alloc w3
  have wf : ∀ O, (W1.alloc O).frozen? ⟨b, 3, none⟩ = false := fun O => by
    rw [World.frozen?_of_block (w := W1) (Below.heap_alloc W1 O b (Nat.lt_of_lt_of_le hbl hBW.size)), hBW.frozen (p := ⟨b, 3, none⟩) hbl]; exact f3
  have HBW := Aside0.mk hBW
  have HS := Aside0.mk hS
  clear hBW hT1 hS hp hW hbl s0 s0a
  refine (stripe_publish_old tb (plc x.f1 * 3) (M (plc x.f1)) x.f1 x.f2 (T (plc x.f1)) e0 W1 hk1 HS.out HG.out).mono ?_
  rintro e w2 ⟨rfl, rfl⟩
  go_wp2
  go_end0
  have hB := HBW.out
  have hcl1 := HC.out.same (SameT.of_below hB [87, 31, 42, 3, 9]) (hB.block b (lt_of_heap HC.out.cells)) (by simp) (by simp) (by simp) (by simp)
  have hr : effR T x = ⟨false, ⟨#[]⟩, [], []⟩ := by
    simp [effR, H2.out, HG.out]
  have ha := hcl1.answered (effR T x) (.slice none 0 0) (.slice none 0 0) (Nat.le_trans HB.out hB.size) (by rw [hr]; exact Kd.R_nil _ _ _ _ _) (by rw [hr]; exact Kd.R_nil _ _ _ _ _)
  rw [hr] at ha
  rw [hr]
  exact ⟨rfl, ⟨_, ha⟩, ((Chg.of_below hB).alloc _).trans (Chg.set (S := fun k => k = b) _ _ _ rfl)⟩

set_option maxRecDepth 100000 in
set_option maxHeartbeats 2000000 in
theorem effect_publish_new (sb tb b base : Nat) (M : Nat → Nat) (T : Nat → List Ent) (lk : Nat → Bool) (clv hv ov rv : Value) (c : PCl) (x : S31) (rest : List S31) (w : World) (hst : w.heap[sb]? = some (.cells (stCells tb lk clv hv) 83 (0, 0)))
    (hcl : ClAt w base b c ov rv) (hx : c.ops = x :: rest) (hT : tabAt w tb M T) (h2 : x.f0 = 1) (hg : getE (T (plc x.f1)) x.f1 = none) (hbase : base ≤ w.heap.size) :
    Calls Try.prog 66 #[.pointer (some ⟨sb, 0, none⟩), .pointer (some ⟨b, 0, none⟩)] w fun e w' => e = .returned (.tuple #[]) ∧ (∃ rv', ClAt w' base b { c with reply := some (effR T x) } ov rv') ∧ (∃ nb, tabAt w' tb M (pubT T x.f1 nb x.f2)) ∧ Chg (fun k => k = b ∨ k = M (plc x.f1)) w w' := by
  obtain ⟨ob, o, N, cap, rfl, hN0, hobl, c0, _, _, c3, fb, k0, k1, k2, hNN, hNc, hcm, hobb⟩ := hcl.open_ hx
  rw [h2] at k0
  have f3 := fb 3
  have s0 : w.cell? ⟨sb, 0, none⟩ = some (.pointer (some ⟨tb, 0, none⟩)) := (cell_of_blk hst 0).trans rfl
  have s0a := cell_alloc s0
  have hpl8 : ((plc x.f1 : Nat) : Int) < 8 := by have := plc_lt x.f1; omega
  have HC := Aside0.mk hcl
  have HT := Aside0.mk hT
  have HB := Aside0.mk hbase
  have H2 := Aside0.mk h2
  have HG := Aside0.mk hg
  clear hst hT hx hbase hg h2 hcl fb hNN hNc hobb hobl
  go_enter Try.func66, Try.ntmps66
  go_wp2
  go_quiet ((go_at_call 60; exact Calls.quiet_of_same (place_any _ _)))
  go_wp2_with (go_at_call 63; refine Stopped.go ?_)
  refine ⟨?_⟩
  have hBW : Below w.heap.size w ((w.alloc (Obj.cells #[Value.int IntKind.i64 1, Value.int IntKind.i64 x.f1, Value.string x.f2] 31)).drewN nq) := pw_below_drewN ((Below.refl _ _).alloc (Nat.le_refl _) _) nq
  generalize hW : ((w.alloc (Obj.cells #[Value.int IntKind.i64 1, Value.int IntKind.i64 x.f1, Value.string x.f2] 31)).drewN nq) = W1 at hBW ⊢
  have hT1 := HT.out.below hBW
  have hp := plc_lt x.f1
  have hk1 : W1.cell? ⟨tb, plc x.f1 * 3 + 2, none⟩ = some (.map (some (M (plc x.f1)))) := (cell_of_blk hT1.cells _).trans (tabCells_map _ _ _ hp)
  have hS := hT1.stripe _ hp
  have hbl := lt_of_heap HC.out.cells
  have w3 : W1.cell? ⟨b, 3, none⟩ = some rv := (hBW.cell (p := ⟨b, 3, none⟩) hbl).trans c3
  have w3a := cell_alloc w3
  have wf : ∀ O, (W1.alloc O).frozen? ⟨b, 3, none⟩ = false := fun O => by
    rw [World.frozen?_of_block (w := W1) (Below.heap_alloc W1 O b (Nat.lt_of_lt_of_le hbl hBW.size)), hBW.frozen (p := ⟨b, 3, none⟩) hbl]; exact f3
  have HTL := Aside0.mk (lt_of_heap hT1.cells)
  have HMB := Aside0.mk hS.1
  have HT1 := Aside0.mk hT1
  have HBW := Aside0.mk hBW
  have HS := Aside0.mk hS
  clear hBW hT1 hS hp hW hbl s0 s0a
  refine (stripe_publish_new tb (plc x.f1 * 3) (M (plc x.f1)) x.f1 x.f2 (T (plc x.f1)) W1 hk1 HTL.out HS.out HG.out).mono ?_
  rintro e w2 ⟨rfl, hs2, hg2⟩
  have hcb1 := (HBW.out.block b (lt_of_heap HC.out.cells)).trans HC.out.cells
  have hbm : b ≠ M (plc x.f1) := fun e => by
    have := HMB.out
    rw [← e, hcb1] at this
    cases this
  have hcb2 := (hg2.block b (lt_of_heap hcb1) (fun e => hbm (by injection e))).trans hcb1
  have v3 : w2.cell? ⟨b, 3, none⟩ = some rv := (cell_of_blk hcb2 3).trans rfl
  have v3a := cell_alloc v3
  have vf : ∀ O, (w2.alloc O).frozen? ⟨b, 3, none⟩ = false := fun O => frozen_of_blk ((Below.heap_alloc w2 O b (lt_of_heap hcb2)).trans hcb2) 3
  have HS2 := Aside0.mk hs2
  have HG2 := Aside0.mk hg2
  have HBM := Aside0.mk hbm
  clear hs2 hg2 hcb1 hcb2 hbm w3 w3a wf hk1
  go_wp2
  go_end0
  have hc2 : Chg (fun k => k = M (plc x.f1)) w w2 := (Chg.of_below HBW.out).trans (Chg.of_grown HG2.out (fun k e => by injection e with e; exact e.symm))
  have hno : ∀ (g : Nat) (cs : Array Value) t z, w.heap[g]? = some (Obj.cells cs t z) → ¬ g = M (plc x.f1) := fun g cs t z hg e => by
    subst e
    rw [(HT.out.stripe _ (plc_lt x.f1)).1] at hg
    cases hg
  have hcl1 := HC.out.same (SameT.of_chg (ts := [87, 31, 42, 3, 9]) hc2 (fun g cs t _ hg => hno g cs t _ hg)) (hc2.block b (lt_of_heap HC.out.cells) (hno _ _ _ _ HC.out.cells)) (by simp) (by simp) (by simp) (by simp)
  have hr : effR T x = ⟨true, ⟨#[]⟩, [], []⟩ := by
    simp [effR, H2.out, HG.out]
  have ha := hcl1.answered (effR T x) (.slice none 0 0) (.slice none 0 0) (Nat.le_trans HB.out hc2.size) (by rw [hr]; exact Kd.R_nil _ _ _ _ _) (by rw [hr]; exact Kd.R_nil _ _ _ _ _)
  rw [hr] at ha
  rw [hr]
  have hcf := ((hc2.mono (S' := fun k => k = b ∨ k = M (plc x.f1)) (fun k h => Or.inr h)).alloc (.cells #[.bool true, .string ⟨#[]⟩, .slice none 0 0, .slice none 0 0] 42)).trans (Chg.set (S := fun k => k = b ∨ k = M (plc x.f1)) _ ⟨b, 3, none⟩ (.pointer (some ⟨w2.heap.size, 0, none⟩)) (Or.inl rfl))
  refine ⟨rfl, ⟨_, ha⟩, ⟨W1.heap.size, ?_⟩, hcf⟩
  rw [pubT_eq]
  have ht2 := HT.out.put (plc_lt x.f1) hc2 HS2.out
  have hcb2 := cell_chg hc2 HC.out.cells (hno _ _ _ _ HC.out.cells)
  have hc3 : Chg (fun k => k = b) w2 ((w2.alloc (.cells #[.bool true, .string ⟨#[]⟩, .slice none 0 0, .slice none 0 0] 42)).setCell ⟨b, 3, none⟩ (.pointer (some ⟨w2.heap.size, 0, none⟩))) := ((Chg.refl _ _).alloc _).trans (Chg.set (S := fun k => k = b) _ _ _ rfl)
  refine ht2.chg hc3 (fun e => ?_) (fun i hi e => ?_) (fun g cs hg e => ?_)
  · have := ht2.cells; rw [e, hcb2] at this; cases this
  · have := (ht2.stripe i hi).1; rw [e, hcb2] at this; cases this
  · subst e; rw [hcb2] at hg; cases hg

theorem Chg.setCells {S : Nat → Prop} (b : Nat) (hp : S b) : ∀ (vs : List Value) (o : Nat) (w : World), Chg S w (w.setCells b o vs)
  | [], o, w => Chg.refl _ _
  | v :: vs, o, w => (Chg.set w ⟨b, o, none⟩ v hp).trans (Chg.setCells b hp vs (o + 1) _)
theorem setCells_at {b : Nat} {t : TypeId} {z : Nat × Nat} : ∀ (vs : List Value) (o : Nat) (w : World) (c : Array Value), w.heap[b]? = some (.cells c t z) → (w.setCells b o vs).heap[b]? = some (.cells ((vs.foldl (fun (p : Array Value × Nat) v => (p.1.setIfInBounds p.2 v, p.2 + 1)) (c, o)).1) t z)
  | [], o, w, c, h => h
  | v :: vs, o, w, c, h => setCells_at vs (o + 1) _ _ (heap_set_same h o v)
theorem SameT.setCells {w : World} {b : Nat} {c : Array Value} {t : Nat} {z : Nat × Nat} (hb : w.heap[b]? = some (Obj.cells c t z)) (o : Nat) (vs : List Value) {ts : List Nat} (ht : t ∉ ts) : SameT w (w.setCells b o vs) ts :=
  SameT.of_chg (S := fun k => k = b) (Chg.setCells (S := fun k => k = b) b rfl vs o w) (fun g cs q hq hg e => by
    subst e
    rw [hb] at hg
    injection hg with hg
    injection hg with _ h2
    exact ht (h2 ▸ hq))

set_option maxRecDepth 100000 in
set_option maxHeartbeats 2000000 in
theorem effect_snapshot (sb tb b base : Nat) (M : Nat → Nat) (T : Nat → List Ent) (lk : Nat → Bool) (clv hv ov rv : Value) (c : PCl) (x : S31) (rest : List S31) (w : World) (hst : w.heap[sb]? = some (.cells (stCells tb lk clv hv) 83 (0, 0)))
    (hcl : ClAt w base b c ov rv) (hx : c.ops = x :: rest) (hT : tabAt w tb M T) (h2 : x.f0 = 3) (hN : ((keysUp T 8).length + 1) * 16 ≤ 140737488355328) (hbase : base ≤ w.heap.size) :
    Calls Try.prog 66 #[.pointer (some ⟨sb, 0, none⟩), .pointer (some ⟨b, 0, none⟩)] w fun e w' => e = .returned (.tuple #[]) ∧ (∃ rv', ClAt w' base b { c with reply := some (effR T x), locked := 0 } ov rv') ∧ w'.heap[sb]? = some (.cells (stCells tb (fun _ => false) clv hv) 83 (0, 0)) ∧ Chg (fun k => k = b ∨ k = sb) w w' := by
  obtain ⟨ob, o, N, cap, rfl, hN0, hobl, c0, _, _, c3, fb, k0, k1, k2, hNN, hNc, hcm, hobb⟩ := hcl.open_ hx
  rw [h2] at k0
  have f3 := fb 3
  have s0 : w.cell? ⟨sb, 0, none⟩ = some (.pointer (some ⟨tb, 0, none⟩)) := (cell_of_blk hst 0).trans rfl
  have s0a := cell_alloc s0
  have hpl8 : ((plc x.f1 : Nat) : Int) < 8 := by have := plc_lt x.f1; omega
  have HC := Aside0.mk hcl
  have HST := Aside0.mk hst
  have HT := Aside0.mk hT
  have HB := Aside0.mk hbase
  have H2 := Aside0.mk h2
  have HN := Aside0.mk hN
  clear hN hT hx hbase h2 hcl fb hNN hNc hobb hobl
  go_enter Try.func66, Try.ntmps66
  go_wp2
  go_quiet ((go_at_call 60; exact Calls.quiet_of_same (place_any _ _)))
  go_wp2_with (go_at_call 70; refine Stopped.go ?_)
  refine ⟨?_⟩
  have hBW : Below w.heap.size w ((w.alloc (Obj.cells #[Value.int IntKind.i64 3, Value.int IntKind.i64 x.f1, Value.string x.f2] 31)).drewN nq) := pw_below_drewN ((Below.refl _ _).alloc (Nat.le_refl _) _) nq
  generalize hW : ((w.alloc (Obj.cells #[Value.int IntKind.i64 3, Value.int IntKind.i64 x.f1, Value.string x.f2] 31)).drewN nq) = W1 at hBW ⊢
  have hT1 := HT.out.below hBW
  have hbl := lt_of_heap HC.out.cells
  have HBW := Aside0.mk hBW
  have HT1 := Aside0.mk hT1
  clear hBW hT1 hW s0 s0a
  refine (table_all tb M T W1 HT1.out HN.out).mono ?_
  rintro e w2 ⟨v0, v1, rfl, hr0, hr1, hb2⟩
  have hB2 : Below w.heap.size w w2 := below_then HBW.out HBW.out.size hb2
  have hcb := (hB2.block b hbl).trans HC.out.cells
  have hsb := (hB2.block sb (lt_of_heap HST.out)).trans HST.out
  obtain ⟨a0, d0, rfl⟩ := Kd.R_slice hr0
  obtain ⟨a1, d1, rfl⟩ := Kd.R_slice hr1
  have HR0 := Aside0.mk hr0
  have HR1 := Aside0.mk hr1
  have HB2 := Aside0.mk hB2
  have HCB := Aside0.mk hcb
  have HSB := Aside0.mk hsb
  obtain ⟨O, hO⟩ : ∃ O, O = Obj.cells #[.bool true, .string ⟨#[]⟩, .slice a0 (tabKeys T).length d0, .slice a1 (tabVals T).length d1] 42 := ⟨_, rfl⟩
  have hbs : sb ≠ b := fun e => by subst e; rw [hcb] at hsb; cases hsb
  have hcb3 := (Below.heap_alloc w2 O b (lt_of_heap hcb)).trans hcb
  have e3 : (w2.alloc O).cell? ⟨b, 3, none⟩ = some rv := (cell_of_blk hcb3 3).trans rfl
  have g3 : (w2.alloc O).frozen? ⟨b, 3, none⟩ = false := frozen_of_blk hcb3 3
  have hcb4 := heap_set_same hcb3 3 (.pointer (some ⟨w2.heap.size, 0, none⟩))
  have e2 : ((w2.alloc O).setCell ⟨b, 3, none⟩ (.pointer (some ⟨w2.heap.size, 0, none⟩))).cell? ⟨b, 2, none⟩ = some (.int .i64 c.locked) := (cell_of_blk hcb4 2).trans rfl
  have g2 : ((w2.alloc O).setCell ⟨b, 3, none⟩ (.pointer (some ⟨w2.heap.size, 0, none⟩))).frozen? ⟨b, 2, none⟩ = false := frozen_of_blk hcb4 2
  have hsb5 : (((w2.alloc O).setCell ⟨b, 3, none⟩ (.pointer (some ⟨w2.heap.size, 0, none⟩))).setCell ⟨b, 2, none⟩ (.int .i64 0)).heap[sb]? = some (.cells (stCells tb lk clv hv) 83 (0, 0)) := by
    rw [Below.heap_setCell _ _ _ _ hbs, Below.heap_setCell _ _ _ _ hbs, Below.heap_alloc _ _ _ (lt_of_heap hsb)]
    exact hsb
  have hclr := fun ty => Lib.run_clear_slice (P := Try.prog) (((w2.alloc O).setCell ⟨b, 3, none⟩ (.pointer (some ⟨w2.heap.size, 0, none⟩))).setCell ⟨b, 2, none⟩ (.int .i64 0)) 164 4 ty (.bool false) Try.underlying164 (fun w => by kernel_rfl) rfl rfl sb 1 8 8 (by omega)
    (fun j hj => by rw [Nat.add_comm, cell_of_blk hsb5, stCells_lk _ _ _ _ _ hj]; rfl) (fun j hj => frozen_of_blk hsb5 _)
  have HBS := Aside0.mk hbs
  have HCB3 := Aside0.mk hcb3
  have HSB5 := Aside0.mk hsb5
  have HO := Aside0.mk hO
  rw [hO] at e3 g3 e2 g2 hclr
  clear hr0 hr1 hb2 hB2 hcb hsb hbs hcb3 hcb4 hsb5 hO HCB3 c0 c3 f3 k0 k1 k2
  go_wp2
  go_end0
  rw [← HO.out]
  have hB := HB2.out
  have hcl1 := HC.out.same (SameT.of_below hB [87, 31, 42, 3, 9]) (hB.block b (lt_of_heap HC.out.cells)) (by simp) (by simp) (by simp) (by simp)
  have hr : effR T x = ⟨true, ⟨#[]⟩, tabKeys T, tabVals T⟩ := by
    simp [effR, H2.out]
  have ha := hcl1.answered (effR T x) _ _ (Nat.le_trans HB.out hB.size) (by rw [hr]; exact Kd.R_lower HR0.out (Nat.le_trans HB.out HBW.out.size)) (by rw [hr]; exact Kd.R_lower HR1.out (Nat.le_trans HB.out HBW.out.size))
  rw [hr] at ha
  rw [hr]
  simp only at ha
  rw [← HO.out] at ha
  have hcb6 := ha.cells
  have hs6 : SameT _ (((w2.alloc O).setCell ⟨b, 3, none⟩ (.pointer (some ⟨w2.heap.size, 0, none⟩))).setCell ⟨b, 2, none⟩ (.int .i64 0)) [31, 3, 9, 42] := SameT.set hcb6 2 _ (by decide)
  have hs7 := hs6.trans (SameT.setCells HSB5.out 1 (List.replicate 8 (.bool false)) (by decide))
  refine ⟨rfl, ⟨_, ⟨?_, ha.ops.same hs7 (by simp), ha.reply.same hs7 (by simp) (by simp) (by simp), by simp⟩⟩, ?_, ?_⟩
  · rw [(Chg.setCells (S := fun k => k = sb) sb rfl _ _ _).block b (by rw [size_set]; exact lt_of_heap hcb6) (fun e => HBS.out e.symm), heap_set_same hcb6]
    rfl
  · rw [setCells_at _ _ _ _ HSB5.out]
    rfl
  · refine ((((Chg.of_below hB).alloc O).trans (Chg.set _ ⟨b, 3, none⟩ _ (Or.inl rfl))).trans (Chg.set _ ⟨b, 2, none⟩ _ (Or.inl rfl))).trans (Chg.setCells sb (Or.inr rfl) _ _ _)
end Go.Proofs.Ytdflfjcnogokgaa.PTableEnds
