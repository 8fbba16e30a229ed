/- The stage: its clients in memory; who can go on. -/
import Derived.Test.YtdflfjcnogokgaaTC
set_option linter.unusedVariables false
set_option linter.unusedSimpArgs false
namespace Go.Proofs.Ytdflfjcnogokgaa.PTableEnds
open Go.RowKit Go.Proofs.YtdflfjcnogokgaaW.PrintWords Go.Proofs.YtdflfjcnogokgaaW.PrintLast Go.Proofs.YtdflfjcnogokgaaW.PrintMore
open Go.FT Go.MuLone
open Go.ChangeMaps (setBlock)

/-- A client: the calls that are left; is it in the first one; how many stripes it has locked; the answer. -/
structure PCl where
  ops : List S31
  begun : Bool
  locked : Nat
  reply : Option S42
/-- The stage: what is in the table; which stripes are locked; the clients; what happened. -/
structure PS where
  T : Nat → List Ent
  lk : Nat → Bool
  cls : List PCl
  hist : List S44

def stCells (tb : Nat) (lk : Nat → Bool) (clv hv : Value) : Array Value :=
  #[.pointer (some ⟨tb, 0, none⟩), .bool (lk 0), .bool (lk 1), .bool (lk 2), .bool (lk 3), .bool (lk 4), .bool (lk 5), .bool (lk 6), .bool (lk 7), clv, hv]
theorem stCells_lk (tb : Nat) (lk : Nat → Bool) (clv hv : Value) (i : Nat) (hi : i < 8) : (stCells tb lk clv hv)[i + 1]? = some (.bool (lk i)) := by
  rcases lt8 hi with rfl | rfl | rfl | rfl | rfl | rfl | rfl | rfl <;> rfl

/-- Three cells of a call. -/
def OpCells (cells : Array Value) (o : Nat) (x : S31) : Prop := cells[o]? = some (.int .i64 x.f0) ∧ cells[o + 1]? = some (.int .i64 x.f1) ∧ cells[o + 2]? = some (.string x.f2)
/-- A slice of calls, somewhere in a row of calls. -/
def OpsAt (w : World) (v : Value) (ops : List S31) : Prop :=
  ∃ A cap, v = .slice A ops.length cap ∧ ops.length ≤ cap ∧ cap ≤ 9223372036854775807 ∧ (0 < ops.length → ∃ ob o cells, A = some ⟨ob, o, none⟩ ∧ w.heap[ob]? = some (.cells cells 31 (0, 0)) ∧ ∀ j x, ops[j]? = some x → OpCells cells (o + j * 3) x)
/-- An answer behind a pointer. -/
def RepAt (w : World) (base : Nat) (v : Value) (r : Option S42) : Prop :=
  match r with
  | none => v = .pointer none
  | some x => ∃ rb v2 v3, v = .pointer (some ⟨rb, 0, none⟩) ∧ w.heap[rb]? = some (.cells #[.bool x.f0, .string x.f1, v2, v3] 42 (0, 0)) ∧ (Kd.int .i64).R 3 w base (fun _ => True) v2 x.f2 ∧ Kd.string.R 9 w base (fun _ => True) v3 x.f3
structure ClAt (w : World) (base b : Nat) (c : PCl) (ov rv : Value) : Prop where
  cells : w.heap[b]? = some (.cells #[ov, .bool c.begun, .int .i64 c.locked, rv] 87 (0, 0))
  ops : OpsAt w ov c.ops
  reply : RepAt w base rv c.reply
  le : c.locked ≤ 8

/-- A world in which the blocks of these types stand as they stood. -/
def SameT (w w' : World) (ts : List Nat) : Prop := ∀ t, t ∈ ts → ∀ (b : Nat) (c : Array Value), w.heap[b]? = some (Obj.cells c t (0, 0)) → w'.heap[b]? = w.heap[b]?
theorem SameT.refl (w : World) (ts : List Nat) : SameT w w ts := fun _ _ _ _ _ => rfl
theorem SameT.of_below {w w' : World} (h : Below w.heap.size w w') (ts : List Nat) : SameT w w' ts := fun _ _ b c hb => h.block b (lt_of_heap hb)
theorem SameT.trans {w w' w'' : World} {ts : List Nat} (h : SameT w w' ts) (k : SameT w' w'' ts) : SameT w w'' ts := fun t ht b c hb => by
  have h1 := h t ht b c hb
  exact (k t ht b c (h1.trans hb)).trans h1
theorem SameT.sub {w w' : World} {ts ts' : List Nat} (h : SameT w w' ts) (hs : ∀ t, t ∈ ts' → t ∈ ts) : SameT w w' ts' := fun t ht => h t (hs t ht)
theorem OpsAt.same {w w' : World} {v : Value} {ops : List S31} {ts : List Nat} (h : OpsAt w v ops) (hs : SameT w w' ts) (ht : 31 ∈ ts) : OpsAt w' v ops := by
  obtain ⟨A, cap, h1, h2, h3, h4⟩ := h
  refine ⟨A, cap, h1, h2, h3, fun hp => ?_⟩
  obtain ⟨ob, o, cells, e, hb, hc⟩ := h4 hp
  exact ⟨ob, o, cells, e, (hs 31 ht ob cells hb).trans hb, hc⟩
theorem R_same {α : Type} {d : Kd α} {e : Nat} {w w' : World} {base : Nat} {v : Value} {xs : List α} {ts : List Nat} (h : d.R e w base (fun _ => True) v xs) (hs : SameT w w' ts) (ht : ∀ q, q ∈ e :: d.E → q ∈ ts) : d.R e w' base (fun _ => True) v xs := by
  refine Kd.R_mono (Kd.R_move (Kd.R_bound h) (fun k hk => ?_)) (fun _ _ => trivial)
  obtain ⟨_, _, _, q, hq, cells, hc⟩ := hk
  exact hs q (ht q hq) k cells hc
theorem RepAt.same {w w' : World} {base : Nat} {v : Value} {r : Option S42} {ts : List Nat} (h : RepAt w base v r) (hs : SameT w w' ts) (h42 : 42 ∈ ts) (h3 : 3 ∈ ts) (h9 : 9 ∈ ts) : RepAt w' base v r := by
  cases r with
  | none => exact h
  | some x =>
    obtain ⟨rb, v2, v3, e, hb, r2, r3⟩ := h
    exact ⟨rb, v2, v3, e, (hs 42 h42 rb _ hb).trans hb, R_same r2 hs (by intro q hq; simp [Kd.int, Kd.scalar] at hq; subst hq; exact h3), R_same r3 hs (by intro q hq; simp [Kd.string, Kd.scalar] at hq; subst hq; exact h9)⟩

def pcan (lk : Nat → Bool) (c : PCl) : Bool :=
  match c.ops with
  | [] => false
  | x :: _ => !c.begun || c.reply.isSome || (if x.f0 = 3 then decide (c.locked = 8) || !lk c.locked else !lk (plc x.f1))

theorem RepAt.ne {w : World} {base : Nat} {v : Value} {r : Option S42} (h : RepAt w base v r) : ∃ p : Option Addr, v = .pointer p ∧ p.isSome = r.isSome := by
  cases r with
  | none => exact ⟨none, h, rfl⟩
  | some x =>
    obtain ⟨rb, v2, v3, e, _⟩ := h
    exact ⟨_, e, rfl⟩

set_option maxRecDepth 100000 in
set_option maxHeartbeats 1000000 in
theorem can_any (sb tb b base : Nat) (lk : Nat → Bool) (clv hv ov rv : Value) (c : PCl) (w : World) (hst : w.heap[sb]? = some (.cells (stCells tb lk clv hv) 83 (0, 0))) (hcl : ClAt w base b c ov rv) :
    Calls Try.prog 65 #[.pointer (some ⟨sb, 0, none⟩), .pointer (some ⟨b, 0, none⟩)] w fun e w' => e = .returned (.bool (pcan lk c)) ∧ Drawn0 w w' := by
  obtain ⟨ops, begun, locked, reply⟩ := c
  obtain ⟨hcells, hops, hrep, hle⟩ := hcl
  simp only at hcells hops hrep hle
  obtain ⟨rp, rfl, hrp⟩ := hrep.ne
  have c0 := cell_of_blk hcells 0
  have c1 := cell_of_blk hcells 1
  have c2 := cell_of_blk hcells 2
  have c3 := cell_of_blk hcells 3
  obtain ⟨A, cap, rfl, hcap, hm, hat⟩ := hops
  simp at c0 c1 c2 c3
  have HS := Aside0.mk hst
  have HRP := Aside0.mk hrp
  have HA := Aside0.mk hat
  clear hcells hrep hst hrp hat hcap
  cases ops with
  | nil =>
    simp only [List.length_nil] at c0
    go_enter Try.func65, Try.ntmps65
    go_wp2
    go_ret
    exact ⟨rfl, Drawn0.refl _⟩
  | cons x rest =>
    obtain ⟨ob, o, cells, rfl, hob, hx⟩ := HA.out (by simp)
    have hx0 := hx 0 x rfl
    simp only [Nat.zero_mul, Nat.add_zero] at hx0
    obtain ⟨x0, x1, x2⟩ := hx0
    have k0 : w.cell? ⟨ob, o, none⟩ = some (.int .i64 x.f0) := (cell_of_blk hob _).trans x0
    have k1 : w.cell? ⟨ob, o + 1, none⟩ = some (.int .i64 x.f1) := (cell_of_blk hob _).trans x1
    have hn0 : ((((x :: rest).length : Nat) : Int) == 0) = false := by simp; omega
    have hn1 : (0 : Nat) < (x :: rest).length := by simp
    clear hob hx x0 x1 x2 HA
    generalize hN : (x :: rest).length = N at *
    cases begun with
    | false =>
      go_enter Try.func65, Try.ntmps65
      go_wp2
      go_ret
      exact ⟨rfl, Drawn0.refl _⟩
    | true =>
      cases rp with
      | some ra =>
        have hr : reply.isSome = true := HRP.out.symm
        have hfin : pcan lk ⟨x :: rest, true, locked, reply⟩ = true := by simp [pcan, hr]
        have HF := Aside0.mk hfin
        clear hr hfin
        go_enter Try.func65, Try.ntmps65
        go_wp2
        go_ret
        exact ⟨congrArg (fun b => Ending.returned (.bool b)) HF.out.symm, Drawn0.refl _⟩
      | none =>
        have hr : reply.isSome = false := HRP.out.symm
        by_cases h3 : x.f0 = 3
        · have hk : (x.f0 == 3) = true := by simp [h3]
          by_cases h8 : locked = 8
          · have hfin : pcan lk ⟨x :: rest, true, locked, reply⟩ = true := by simp [pcan, hr, h3, h8]
            have HF := Aside0.mk hfin
            have h8b : (((locked : Nat) : Int) == 8) = true := by simp [h8]
            clear hr hfin h3 h8
            go_enter Try.func65, Try.ntmps65
            go_wp2
            go_quiet (fail)
            go_wp2
            go_ret
            exact ⟨congrArg (fun b => Ending.returned (.bool b)) HF.out.symm, ⟨_, rfl⟩⟩
          · have hfin : pcan lk ⟨x :: rest, true, locked, reply⟩ = !lk locked := by simp [pcan, hr, h3, h8]
            have HF := Aside0.mk hfin
            have h8b : (((locked : Nat) : Int) == 8) = false := by simp; omega
            have hlt : ((locked : Nat) : Int) < 8 := by omega
            have k2 : w.cell? ⟨sb, 1 + locked, none⟩ = some (.bool (lk locked)) := by rw [Nat.add_comm]; exact (cell_of_blk HS.out _).trans (stCells_lk _ _ _ _ _ (by omega))
            clear hr hfin h3 h8
            go_enter Try.func65, Try.ntmps65
            go_wp2
            go_quiet (fail)
            go_wp2
            go_ret
            exact ⟨congrArg (fun b => Ending.returned (.bool b)) HF.out.symm, ⟨_, rfl⟩⟩
        · have hk : (x.f0 == 3) = false := by simp [h3]
          have hfin : pcan lk ⟨x :: rest, true, locked, reply⟩ = !lk (plc x.f1) := by simp [pcan, hr, h3]
          have HF := Aside0.mk hfin
          have hlt : ((plc x.f1 : Nat) : Int) < 8 := by have := plc_lt x.f1; omega
          have k2 : w.cell? ⟨sb, 1 + plc x.f1, none⟩ = some (.bool (lk (plc x.f1))) := by rw [Nat.add_comm]; exact (cell_of_blk HS.out _).trans (stCells_lk _ _ _ _ _ (plc_lt _))
          clear hr hfin h3
          go_enter Try.func65, Try.ntmps65
          go_wp2
          go_quiet ((go_at_call 60; exact Calls.quiet_of_same (place_any _ _)))
          go_wp2
          go_ret
          exact ⟨congrArg (fun b => Ending.returned (.bool b)) HF.out.symm, ⟨_, rfl⟩⟩
end Go.Proofs.Ytdflfjcnogokgaa.PTableEnds
