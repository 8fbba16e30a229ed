/- The play in plain words: its steps, how many are left, what always holds. -/
import Derived.Test.YtdflfjcnogokgaaTI
set_option linter.unusedVariables false
set_option linter.unusedSimpArgs false
namespace Go.Proofs.Ytdflfjcnogokgaa.PTableEnds
open Go.RowKit Go.Proofs.YtdflfjcnogokgaaW.PrintWords Go.Proofs.YtdflfjcnogokgaaW.PrintLast Go.Proofs.YtdflfjcnogokgaaW.PrintMore
open Go.FT Go.MuLone

/-- A step of client n; nb: where a new entry lies. -/
def pstep (S : PS) (n nb : Nat) : PS :=
  match S.cls[n]? with
  | none => S
  | some c =>
    match c.ops with
    | [] => S
    | x :: rest =>
      if c.begun = false then { S with cls := S.cls.set n { c with begun := true }, hist := S.hist ++ [⟨n, true, x, z42⟩] }
      else match c.reply with
        | some r => { S with cls := S.cls.set n { c with ops := rest, begun := false, reply := none }, hist := S.hist ++ [⟨n, false, x, r⟩] }
        | none =>
          if x.f0 = 3 ∧ c.locked < 8 then { S with lk := fun i => if i = c.locked then true else S.lk i, cls := S.cls.set n { c with locked := c.locked + 1 } }
          else { T := effT S.T x nb, lk := effL x S.lk, cls := S.cls.set n (effC S.T x c), hist := S.hist }

/-! ### where entries lie says nothing -/
def stripE (e : Ent) : Ent := { e with blk := 0 }
def strip (T : Nat → List Ent) : Nat → List Ent := fun i => (T i).map stripE
theorem getE_strip (L : List Ent) (k : Int) : getE (L.map stripE) k = (getE L k).map stripE := by
  unfold getE
  rw [List.find?_map]
  rfl
theorem keysUp_strip (T : Nat → List Ent) (i : Nat) : keysUp (strip T) i = keysUp T i := by
  unfold keysUp strip
  congr 1
  funext j
  rw [List.map_map]
  rfl
theorem tabVal_strip (T : Nat → List Ent) (k : Int) : tabVal (strip T) k = tabVal T k := by
  unfold tabVal strip
  rw [getE_strip, Option.map_map]
  rfl
theorem tabKeys_strip (T : Nat → List Ent) : tabKeys (strip T) = tabKeys T := by unfold tabKeys; rw [keysUp_strip]
theorem tabVals_strip (T : Nat → List Ent) : tabVals (strip T) = tabVals T := by
  unfold tabVals
  rw [tabKeys_strip, show tabVal (strip T) = tabVal T from funext (tabVal_strip T)]
theorem effR_strip (T : Nat → List Ent) (x : S31) : effR (strip T) x = effR T x := by
  unfold effR
  rw [tabVal_strip, tabKeys_strip, tabVals_strip, show strip T (plc x.f1) = (T (plc x.f1)).map stripE from rfl, getE_strip]
  simp
theorem effT_strip (T : Nat → List Ent) (x : S31) (nb : Nat) : strip (effT T x nb) = effT (strip T) x 0 := by
  unfold effT
  rw [show strip T (plc x.f1) = (T (plc x.f1)).map stripE from rfl, getE_strip, Option.isNone_map]
  split
  · split
    · funext i
      unfold strip pubT
      by_cases h : i = plc x.f1
      · simp [h, stripE]
      · simp [h]
    · rfl
  · rfl
def PS.strip (S : PS) : PS := { S with T := PTableEnds.strip S.T }
theorem effC_strip (T : Nat → List Ent) (x : S31) (c : PCl) : effC (strip T) x c = effC T x c := by unfold effC; rw [effR_strip]
theorem pstep_strip (S : PS) (n nb : Nat) : (pstep S n nb).strip = pstep S.strip n 0 := by
  unfold pstep PS.strip
  simp only
  cases S.cls[n]? with
  | none => rfl
  | some c =>
    simp only
    cases c.ops with
    | nil => rfl
    | cons x rest =>
      simp only
      split
      · rfl
      · cases c.reply with
        | some r => rfl
        | none =>
          simp only
          split
          · rfl
          · simp only [effT_strip, effC_strip]

/-! ### how many steps are left -/
def wt (x : S31) : Nat := if x.f0 = 3 then 11 else 3
def wts (l : List S31) : Nat := (l.map wt).sum
def prog (c : PCl) (x : S31) : Nat := if c.begun = false then 0 else if c.reply.isSome then wt x - 1 else 1 + c.locked
def remC (c : PCl) : Nat := match c.ops with | [] => 0 | x :: rest => (wt x - prog c x) + wts rest
def left (S : PS) : Nat := (S.cls.map remC).sum

structure CI (c : PCl) : Prop where
  kind : ∀ x ∈ c.ops, 1 ≤ x.f0 ∧ x.f0 ≤ 3
  le : c.locked ≤ 8
  idle : c.begun = false → c.locked = 0 ∧ c.reply = none
  ans : c.reply.isSome = true → c.locked = 0
  plain : ∀ x rest, c.ops = x :: rest → x.f0 ≠ 3 → c.locked = 0
  over : c.ops = [] → c.begun = false

theorem sum_set (l : List PCl) (n : Nat) (c c' : PCl) (h : l[n]? = some c) : ((l.set n c').map remC).sum + remC c = (l.map remC).sum + remC c' := by
  induction l generalizing n with
  | nil => simp at h
  | cons a l ih =>
    cases n with
    | zero => simp at h; subst h; simp; omega
    | succ n => simp at h; have := ih n h; simp only [List.set_cons_succ, List.map_cons, List.sum_cons]; omega
theorem prog_le (c : PCl) (h : CI c) (x : S31) (rest : List S31) (hx : c.ops = x :: rest) (hb : c.begun = true) (hr : c.reply = none) : prog c x < wt x - 1 := by
  unfold prog wt
  rw [hb, hr]
  have := h.le
  by_cases h3 : x.f0 = 3
  · simp [h3]; omega
  · have := h.plain x rest hx h3
    simp [h3]; omega

theorem pstep_left (S : PS) (n nb : Nat) (c : PCl) (x : S31) (rest : List S31) (hc : S.cls[n]? = some c) (hx : c.ops = x :: rest) (hI : CI c) : left (pstep S n nb) + 1 = left S := by
  have key : ∀ c' : PCl, remC c' + 1 = remC c → ((S.cls.set n c').map remC).sum + 1 = left S := fun c' h => by
    have := sum_set S.cls n c c' hc
    unfold left
    omega
  unfold pstep
  rw [hc]
  simp only [hx]
  by_cases hb : c.begun = false
  · rw [if_pos hb]
    refine key _ ?_
    have h0 := hI.idle hb
    simp only [remC, hx, prog, hb, h0.2, h0.1]
    simp
    unfold wt; split <;> omega
  · rw [if_neg hb]
    have hb' : c.begun = true := by simpa using hb
    cases hr : c.reply with
    | some r =>
      simp only
      refine key _ ?_
      simp only [remC, hx, prog, hb', hr]
      have h1 : 3 ≤ wt x := by unfold wt; split <;> omega
      cases rest with
      | nil => simp [wts]; omega
      | cons y rest' => simp [wts]; omega
    | none =>
      simp only
      have hp := prog_le c hI x rest hx hb' hr
      by_cases h38 : x.f0 = 3 ∧ c.locked < 8
      · rw [if_pos h38]
        refine key _ ?_
        simp only [prog, hb', hr] at hp
        simp only [remC, hx, prog, hb', hr]
        simp at hp ⊢
        omega
      · rw [if_neg h38]
        refine key _ ?_
        simp only [remC, effC, hx, prog, hb', hr]
        have h1 : 3 ≤ wt x := by unfold wt; split <;> omega
        have h2 : 1 + c.locked = wt x - 2 := by
          by_cases h3 : x.f0 = 3
          · have := hI.le; unfold wt; rw [if_pos h3]; omega
          · have := hI.plain x rest hx h3; unfold wt; rw [if_neg h3]; omega
        simp
        omega
theorem CI_set {S : PS} {n nb : Nat} {c : PCl} {x : S31} {rest : List S31} (hc : S.cls[n]? = some c) (hx : c.ops = x :: rest) (hI : ∀ c ∈ S.cls, CI c) : ∀ c ∈ (pstep S n nb).cls, CI c := by
  have hcI := hI c (List.mem_of_getElem? hc)
  have key : ∀ c' : PCl, CI c' → ∀ d ∈ S.cls.set n c', CI d := fun c' h d hd => by
    rcases List.mem_or_eq_of_mem_set hd with h1 | h1
    · exact hI d h1
    · rw [h1]; exact h
  unfold pstep
  rw [hc]
  simp only [hx]
  by_cases hb : c.begun = false
  · rw [if_pos hb]
    have h0 := hcI.idle hb
    exact key _ ⟨fun y hy => hcI.kind y (by rw [hx]; exact hy), hcI.le, fun h => by simp at h, hcI.ans, fun y r hy h => hcI.plain y r (by rw [hx]; exact hy) h, fun h => by simp at h⟩
  · rw [if_neg hb]
    have hb' : c.begun = true := by simpa using hb
    cases hr : c.reply with
    | some r =>
      have h0 := hcI.ans (by rw [hr]; rfl)
      exact key _ ⟨fun y hy => hcI.kind y (by rw [hx]; exact List.mem_cons_of_mem _ hy), hcI.le, fun _ => ⟨h0, rfl⟩, fun h => by simp at h, fun _ _ _ _ => h0, fun _ => rfl⟩
    | none =>
      simp only
      by_cases h38 : x.f0 = 3 ∧ c.locked < 8
      · rw [if_pos h38]
        refine key _ ⟨fun y hy => hcI.kind y (by rw [hx]; exact hy), by show c.locked + 1 ≤ 8; omega, fun h => absurd h (by simp [hb']), fun h => by simp at h, fun y r hy h => ?_, fun h => by simp at h⟩
        injection hy with hy
        subst hy
        exact absurd h38.1 h
      · rw [if_neg h38]
        refine key _ ⟨hcI.kind, ?_, fun h => absurd h (by simp [effC, hb']), fun _ => ?_, fun y r hy h => ?_, fun h => by simp [effC, hx] at h⟩
        · simp only [effC]; split
          · omega
          · exact hcI.le
        · simp only [effC]; split
          · rfl
          · rename_i h3; exact hcI.plain x rest hx h3
        · simp only [effC]; split
          · rfl
          · rename_i h3; exact hcI.plain x rest hx h3
theorem pstep_hist (S : PS) (n nb : Nat) : (pstep S n nb).hist.length ≤ S.hist.length + 1 := by
  unfold pstep
  cases S.cls[n]? with
  | none => simp
  | some c =>
    simp only
    cases c.ops with
    | nil => simp
    | cons x rest =>
      simp only
      split
      · simp
      · cases c.reply with
        | some r => simp
        | none => simp only; split <;> simp
theorem keysUp_pub (T : Nat → List Ent) (k : Int) (nb : Nat) (v : ByteArray) (i : Nat) : (keysUp (pubT T k nb v) i).length = (keysUp T i).length + if plc k < i then 1 else 0 := by
  induction i with
  | zero => simp [keysUp]
  | succ i ih =>
    rw [keysUp_succ, keysUp_succ, List.length_append, List.length_append, ih]
    by_cases h : i = plc k
    · subst h
      simp [pubT]
      omega
    · by_cases h1 : plc k < i
      · have h2 : plc k < i + 1 := by omega
        simp [pubT, h, h1, h2]
        omega
      · have h2 : ¬ plc k < i + 1 := by omega
        simp [pubT, h, h1, h2]
theorem pstep_keys (S : PS) (n nb : Nat) : (keysUp (pstep S n nb).T 8).length ≤ (keysUp S.T 8).length + 1 := by
  unfold pstep
  cases S.cls[n]? with
  | none => simp
  | some c =>
    simp only
    cases c.ops with
    | nil => simp
    | cons x rest =>
      simp only
      split
      · simp
      · cases c.reply with
        | some r => simp
        | none =>
          simp only
          split
          · simp
          · simp only [effT]
            split
            · split
              · rw [keysUp_pub]; split <;> omega
              · omega
            · omega
theorem pstep_len (S : PS) (n nb : Nat) : (pstep S n nb).cls.length = S.cls.length := by
  unfold pstep
  cases S.cls[n]? with
  | none => rfl
  | some c =>
    simp only
    cases c.ops with
    | nil => rfl
    | cons x rest =>
      simp only
      split
      · simp
      · cases c.reply with
        | some r => simp
        | none => simp only; split <;> simp

/-! ### the play -/
def pnext (S : PS) (script : List Int) (last : Int) : Int × List Int := ppick (canAt S.lk S.cls) S.cls.length script last
def prun : Nat → PS → List Int → Int → PS
  | 0, S, _, _ => S
  | f + 1, S, script, n => if n < 0 then S else prun f (pstep S n.toNat 0) (pnext (pstep S n.toNat 0) script n).2 (pnext (pstep S n.toNat 0) script n).1
def okOp (x : S31) : Bool := decide (1 ≤ x.f0) && decide (x.f0 ≤ 3)
def newCl (ops : List S31) : PCl := ⟨ops.filter okOp, false, 0, none⟩
def start (clients : List (List S31)) : PS := ⟨fun _ => [], fun _ => false, clients.map newCl, []⟩
def pplay (clients : List (List S31)) (script : List Int) : List S44 :=
  if clients.length > 64 then [] else (prun (left (start clients) + 1) (start clients) (pnext (start clients) script (-1)).2 (pnext (start clients) script (-1)).1).hist
end Go.Proofs.Ytdflfjcnogokgaa.PTableEnds
