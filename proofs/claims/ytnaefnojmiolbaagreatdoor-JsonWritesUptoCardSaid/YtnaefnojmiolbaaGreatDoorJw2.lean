/-
  A range over a function whose function turns the world ahead of its first round; regions in a round. Of no program.
  Slices of bytes that a call owns: appended strings, and back to a string. Of no program.
  Texts of numbers, said plainly: which texts are, with which number one begins, and the digits of a number. Of no program.
-/
import Derived.Test.YtnaefnojmiolbaaGreatDoorJw1
import Derived.RangeFuncFrom
import Derived.RangeFuncNested
import Derived.RangeFuncLeaves
import Derived.RangeFuncBox
import Derived.RangeFuncCalls
import Derived.OwnWalkIn
import Derived.TacticsInMore
import Derived.LoopN
import Derived.LoopNIn
import Derived.LoopIn
import Derived.Deep.QuietTactic
import Derived.BigQuiet
import Derived.Deep.RegionHeld3
import Derived.Deep.AppendSrc
import Derived.Laws.IdiomStrings
import Derived.Lib.ConvBytes
import Derived.Lib.ParseIntBTie
import Derived.Lib.SlTrimSet
import Derived.Lib.ItoaMem
namespace Go.Proofs.YtnaefnojmiolbaaGreatDoor
open Go.RowKit

section
variable {P : Program} {n l : Nat}

def noDeferB (ops : Array Oper) : Bool := ops.all fun o => match o.op with | .defer _ => false | _ => true
theorem noDefer_at {ops : Array Oper} (h : noDeferB ops = true) {i : Nat} {o : Oper} (ho : ops[i]? = some o) : ∀ c, o.op ≠ .defer c := by
  intro c hc
  unfold noDeferB at h
  rw [Array.all_eq_true'] at h
  have := h o (Array.mem_of_getElem? ho)
  rw [hc] at this
  cases this

/-- What an operation does outside of a round it does in one. -/
theorem oper_lift {o : Oper} (hd : ∀ c, o.op ≠ .defer c) {a : Act} {w : World} {K K' : Act → World → Prop} {Q : Exit → Act → World → Prop} (hk : ∀ a w, K a w → K' a w) (h : o.wp P a w K Q) : o.wpIn (Fence.wide.inRound l) n P a w K' Q := by
  unfold Oper.wp at h
  refine ⟨fun _ _ => trivial, ?_⟩
  rw [Oper.semAt_eq _ _ _ hd]
  generalize (execOp a.eval o).run P w = r at h
  cases r with
  | ok x w' =>
    cases x with
    | value v => exact hk _ _ h
    | skip => exact hk _ _ h
    | defer d => exact hk _ _ h
    | enter f args =>
      refine ⟨fun h => (by cases h), CallsIn.inRound l (callsIn_wide.2 (Calls.mono h fun e w'' he => ?_))⟩
      cases e with
      | returned v => exact hk _ _ he
      | panicked ch => exact he
      | outgrown => exact he
    | row row args =>
      refine ⟨fun h => (by cases h), fun c cs _ => ?_⟩
      obtain ⟨v, w'', hr, hs⟩ := h c cs
      exact ⟨v, w'', hk _ _ hr, stepsIn_wide.2 hs⟩
    | round l f tmps assign body => exact h.elim
    | _ => exact h.elim
  | halt x w' =>
    cases x with
    | panic v => exact h
    | _ => exact h.elim
theorem any_lift {md : Region.Mode} {ops : Array Oper} (hd : noDeferB ops = true) {Q : Exit → Act → World → Prop} (hQ : ¬ LetsOut Q) : ∀ (fuel : Nat) (listed : Array Bool) (a : Act) (w : World),
    wpAny P md ops Q fuel listed a w → wpAnyIn (Fence.wide.inRound l) n P md ops Q fuel listed a w
  | 0, _, _, _, h => h
  | fuel + 1, listed, a, w, h => by
    refine ⟨h.1, fun i hi => ?_⟩
    have h2 := h.2 i hi
    unfold wpOp at h2
    unfold wpOpIn
    cases ho : ops[i]? with
    | none =>
      rw [ho] at h2
      exact any_lift hd hQ fuel _ _ _ h2
    | some o =>
      rw [ho] at h2
      simp only at h2 ⊢
      split at h2
      · rw [if_pos (by assumption)]
        rcases h2 with h2 | ⟨_, h2⟩
        · exact oper_lift (noDefer_at hd ho) (fun a w => any_lift hd hQ fuel _ a w) h2
        · exact absurd h2 hQ
      · rw [if_neg (by assumption)]
        exact ⟨fun _ _ => trivial, any_lift hd hQ fuel _ _ _ h2⟩
/-- A region that draws its order, in a round. -/
theorem round_region_any {id : Nat} {ops : Array Oper} {Q : Exit → Act → World → Prop} {a : Act} {w : World} (hm : P.follows .mixedOrders = true) (hd : noDeferB ops = true) (hQ : ¬ LetsOut Q)
    (h : wpAny P .any ops Q ops.size (Array.replicate ops.size false) a w.drew) : (Code.region id ops true).wpIn (Fence.wide.inRound l) n P Q a w :=
  wpIn_region_any hm (any_lift hd hQ _ _ _ _ h)
/-- One that is walked under S. -/
theorem round_region_held {id : Nat} {S : World → Prop} {ops : Array Oper} {Q : Exit → Act → World → Prop} {a : Act} {w : World} (hm : P.follows .mixedOrders = true) (hd : noDeferB ops = true) (hQ : ¬ LetsOut Q) (hS : S w.drew)
    (h : S w.drew → wpAnyH P .any ops Q S ops.size (Array.replicate ops.size false) a w.drew) : (Code.region id ops true).wpIn (Fence.wide.inRound l) n P Q a w :=
  round_region_any hm hd hQ (wpAny_of_held _ _ _ _ (h hS))
end

/-! ### The iterator's contract, and the statement -/
/-- The iterator: ahead of the first round it turns the world as Pre says; N rounds come, round j with the values encs j; a round that goes on keeps what Kp says; c is the iterator's own letter. -/
def SeqG (F : Fence) (n : Nat) (P : Program) (g : Nat) (lbs : Array Value) (encs : Nat → Array Value) (Pre Kp : Nat → World → World → Prop) (N : Nat) (w : World) : Prop :=
  ∀ (l : Nat) (J Jx : Nat → Nat → World → Prop) (W : World), Below w.heap.size w W → (∀ c j W o, J c j W → J c j (W.alloc o)) →
    (∀ c j W1, J c j W1 → j < N → YieldAt F (n - 1) P l (encs j) W1 fun e W' => (e = .returned (.bool true) ∧ J c (j + 1) W' ∧ Kp c W1 W') ∨ (e = .returned (.bool false) ∧ Jx c j W')) →
    (∀ c W', Pre c W W' → J c 0 W') →
    CallsIn F n P g (#[.func (.yield l) #[] #[]] ++ lbs) W fun e W' => (∃ v, e = .returned v) ∧ ∃ c, (J c N W' ∨ ∃ j, j < N ∧ Jx c j W')

/-- What is said abides new blocks, and the turn of a loop's record from B on. -/
def OwnL {β : Type} (B : Nat) (I : β → World → Prop) : Prop :=
  ∀ s W W' row, I s W → W.grownBy W' row → (∀ r, row = some r → B ≤ r ∧ ∃ o : Loop, W.heap[r]? = some (.loop o)) → I s W'
theorem OwnL.putObj {β : Type} {B : Nat} {I : β → World → Prop} (h : OwnL B I) {s : β} {W : World} {l : Nat} {o : Loop} (o' : Obj) (hs : I s W) (hB : B ≤ l) (hl : W.heap[l]? = some (.loop o)) : I s (W.putObj l o') :=
  h s W _ (some l) hs (grownBy_putObj' W l o') (fun r e => by cases e; exact ⟨hB, o, hl⟩)
theorem OwnL.alloc {β : Type} {B : Nat} {I : β → World → Prop} (h : OwnL B I) {s : β} {W : World} (o : Obj) (hs : I s W) : I s (W.alloc o) :=
  h s W _ none hs (World.grownBy_alloc W o none) (fun r e => by cases e)
theorem OwnL.and {β : Type} {B : Nat} {I J : β → World → Prop} (h : OwnL B I) (k : OwnL B J) : OwnL B (fun s W => I s W ∧ J s W) := fun s W W' row hs hg hr => ⟨h s W W' row hs.1 hg hr, k s W W' row hs.2 hg hr⟩
theorem ownL_block {β : Type} (B D : Nat) (o : Obj) (ho : ∀ x, o ≠ .loop x) : OwnL B (fun (_ : β) W => W.heap[D]? = some o) := fun _ W W' row hs hg hr => by
  refine (hg.block D (lt_of_block hs) (fun e => ?_)).trans hs
  obtain ⟨_, x, hx⟩ := hr D e.symm
  rw [hs] at hx
  cases hx
  exact ho x rfl
def isRec : Obj → Bool
  | .loop _ => true
  | .deferred _ => true
  | _ => false
/-- The loops' records and the blocks for deferred calls from B on lie as they lay. -/
structure KeepsR (B : Nat) (W W' : World) : Prop where
  size : W.heap.size ≤ W'.heap.size
  same : ∀ (k : Nat) (o : Obj), B ≤ k → W.heap[k]? = some o → isRec o = true → W'.heap[k]? = some o
theorem KeepsR.of_mod {Z : Nat → Prop} {W W' : World} (B : Nat) (m : Mod Z W W') (hz : ∀ k o, Z k → W.heap[k]? = some o → isRec o = false) : KeepsR B W W' :=
  ⟨m.size, fun k o _ hk ho => m.blk hk (fun h => by rw [hz k o h hk] at ho; cases ho)⟩
theorem KeepsR.of_below {W W' : World} (B : Nat) (h : Below W.heap.size W W') : KeepsR B W W' := KeepsR.of_mod B (Mod.of_below (F := fun _ => False) h) (fun _ _ h => h.elim)
theorem KeepsR.refl (B : Nat) (W : World) : KeepsR B W W := ⟨Nat.le_refl _, fun _ _ _ h _ => h⟩
theorem KeepsR.trans {B : Nat} {X Y Z : World} (h : KeepsR B X Y) (k : KeepsR B Y Z) : KeepsR B X Z := ⟨Nat.le_trans h.size k.size, fun i o hB hi ho => k.same i o hB (h.same i o hB hi ho) ho⟩
/-- How the body of a round may be left. -/
def postG (B : Nat) (Kp : Nat → World → World → Prop) (I : Nat → Nat → World → Prop) (Ix : Code → Nat → Nat → World → Prop) (c j : Nat) (W : World) : Exit → Act → World → Prop
  | .normal, _, W' => KeepsR B W W' ∧ Kp c W W' ∧ I c (j + 1) W'
  | .ret, _, W' => KeepsR B W W' ∧ Ix .ret c j W'
  | .exit id, _, W' => KeepsR B W W' ∧ Ix (.exit id) c j W'
  | .goto t, _, W' => KeepsR B W W' ∧ Ix (.goto t) c j W'
  | .panic _, _, _ => False
  | .outgrown, _, _ => False
section
variable {F : Fence} {n : Nat} {P : Program}
abbrev recOf (fn : FuncId) (tmps : Array Value) (ps : Array Tmp) (assign body : Code) (d : Nat) (st : LoopState) (pe : Option Code) : Loop := { state := st, pending := pe, fn, tmps, params := ps, assign, body, defers := d }

/-- What is asked of the walk of a body. -/
structure BodyG (F : Fence) (n : Nat) (P : Program) (tmps : Array Value) (ps : Array Tmp) (assign body : Code) (encs : Nat → Array Value) (Kp : Nat → World → World → Prop) (N B : Nat) (I : Nat → Nat → World → Prop) (Ix : Code → Nat → Nat → World → Prop) : Prop where
  par : ∀ j, (encs j).size = ps.size
  keepT : ∀ {c : Nat} {A B C : World}, Kp c A B → Kp c B C → Kp c A C
  keepB : ∀ (c : Nat) (W : World) (l : Nat) (o o' : Obj), B ≤ l → W.heap[l]? = some o → o.isCells = false → Kp c W (W.putObj l o')
  own : ∀ c, OwnL B (I c)
  ownX : ∀ x c, OwnL B (Ix x c)
  round : ∀ (l c j : Nat) (W : World), B ≤ l → (∃ r, W.heap[l]? = some (.loop r)) → I c j W → j < N →
    assign.wpIn (F.inRound l) (n - 1 - 1) P (Exit.then (fun a' W' => KeepsR B W W' ∧ Kp c W W' ∧ (∃ r, W'.heap[l]? = some (.loop r)) ∧
      (∀ st W2, W2 = W'.putObj l st → (∃ r, st = .loop r) → body.wpIn (F.inRound l) (n - 1 - 1) P (postG B Kp I Ix c j W2) a' W2)) (fun _ _ _ => False))
      { tmps := (ps.zip (encs j)).foldl (fun t (p, v) => t.setIfInBounds p v) tmps, defers := [] } W

theorem rangeG_core {gf : Nat} {lbs : Array Value} {encs : Nat → Array Value} {Pre Kp : Nat → World → World → Prop} {N : Nat} {w0 : World} (hseq : SeqG F (n - 1) P gf lbs encs Pre Kp N w0)
    {B lb d : Nat} {fn : FuncId} {tmps : Array Value} {ps : Array Tmp} {assign body : Code} (hfn : F.fn fn) {I : Nat → Nat → World → Prop} {Ix : Code → Nat → Nat → World → Prop} (hbd : BodyG F n P tmps ps assign body encs Kp N B I Ix)
    {W1 : World} (hb1 : Below w0.heap.size w0 W1) (hl1 : W1.heap[lb]? = some (.loop (recOf fn tmps ps assign body d .ready none))) (hB : B ≤ lb)
    (h0 : ∀ c W', Pre c W1 W' → KeepsR B W1 W' ∧ I c 0 W') {Q : Exit → Act → World → Prop} {a' : Act}
    (hdone : ∀ c W, I c N W → Q .normal a' W) (hstop : ∀ x c j W, j < N → Ix x c j W → x.wpIn F n P Q a' W) :
    CallsIn F (n - 1) P gf (#[.func (.yield lb) #[] #[]] ++ lbs) W1 (rangePost F n P lb Q a') := by
  refine (hseq lb (fun c j W => I c j W ∧ W.heap[lb]? = some (.loop (recOf fn tmps ps assign body d .ready none)))
    (fun c j W => ∃ x, Ix x c j W ∧ W.heap[lb]? = some (.loop (recOf fn tmps ps assign body d .done (some x)))) W1 hb1 ?_ ?_ ?_).mono ?_
  · intro c j W o ⟨hi, hl⟩
    exact ⟨(hbd.own c).alloc o hi, alloc_blk hl o⟩
  · intro c j W ⟨hi, hl⟩ hj
    have hy := run_yield (P := P) (args := encs j) hl (hbd.par j)
    refine ⟨fn, _, assign, body, hy, roundIn_of_wpIn hfn (wpIn_mono (hbd.round lb c j W hB ⟨_, hl⟩ hi hj) ?_)⟩
    rintro e a2 W2 hp
    cases e with
    | normal =>
      obtain ⟨hk2, hkp2, -, hbody⟩ := hp
      have hl2 := hk2.same lb _ hB hl rfl
      have hlt2 : lb < W2.heap.size := lt_of_block hl2
      refine ⟨_, run_beginRound hl2 rfl, ?_⟩
      obtain ⟨W3, hW3⟩ : ∃ W3, W3 = W2.putObj lb (.loop (recOf fn tmps ps assign body d .busy none)) := ⟨_, rfl⟩
      have hl3 : W3.heap[lb]? = some (.loop (recOf fn tmps ps assign body d .busy none)) := by rw [hW3]; exact World.putObj_heap_same hlt2
      have hkp3 : Kp c W W3 := by rw [hW3]; exact hbd.keepT hkp2 (hbd.keepB c W2 lb _ _ hB hl2 rfl)
      show body.wpIn _ _ _ _ _ (W2.putObj lb (.loop (recOf fn tmps ps assign body d .busy none)))
      rw [← hW3]
      refine wpIn_mono (hbody _ W3 hW3 ⟨_, rfl⟩) ?_
      have fin : ∀ (jump : Option Code) (W4 : World), KeepsR B W3 W4 → (Instr.endRound lb jump).run P W4 = .ok (.bool jump.isNone) (W4.putObj lb (.loop (recOf fn tmps ps assign body d (if jump.isNone then .ready else .done) jump))) ∧
          W4.heap[lb]? = some (.loop (recOf fn tmps ps assign body d .busy none)) ∧ (W4.putObj lb (.loop (recOf fn tmps ps assign body d (if jump.isNone then .ready else .done) jump))).heap[lb]? = some (.loop (recOf fn tmps ps assign body d (if jump.isNone then .ready else .done) jump)) := fun jump W4 hk4 => by
        have hl4 := hk4.same lb _ hB hl3 rfl
        exact ⟨run_endRound jump hl4, hl4, World.putObj_heap_same (lt_of_block hl4)⟩
      rintro e a4 W4 hq
      cases e with
      | normal =>
        obtain ⟨hk4, hkp4, hi4⟩ := hq
        obtain ⟨hr, hl4, hl5⟩ := fin none W4 hk4
        exact ⟨_, _, hr, .inl ⟨rfl, ⟨(hbd.own c).putObj _ hi4 hB hl4, hl5⟩, hbd.keepT (hbd.keepT hkp3 hkp4) (hbd.keepB c W4 lb _ _ hB hl4 rfl)⟩⟩
      | ret =>
        obtain ⟨hk4, hi4⟩ := hq
        obtain ⟨hr, hl4, hl5⟩ := fin (some .ret) W4 hk4
        exact ⟨_, _, hr, .inr ⟨rfl, .ret, (hbd.ownX _ c).putObj _ hi4 hB hl4, hl5⟩⟩
      | exit id =>
        obtain ⟨hk4, hi4⟩ := hq
        obtain ⟨hr, hl4, hl5⟩ := fin (some (.exit id)) W4 hk4
        exact ⟨_, _, hr, .inr ⟨rfl, .exit id, (hbd.ownX _ c).putObj _ hi4 hB hl4, hl5⟩⟩
      | goto t =>
        obtain ⟨hk4, hi4⟩ := hq
        obtain ⟨hr, hl4, hl5⟩ := fin (some (.goto t)) W4 hk4
        exact ⟨_, _, hr, .inr ⟨rfl, .goto t, (hbd.ownX _ c).putObj _ hi4 hB hl4, hl5⟩⟩
      | panic ch => exact hq.elim
      | outgrown => exact hq.elim
    | ret => exact hp.elim
    | exit id => exact hp.elim
    | goto t => exact hp.elim
    | panic ch => exact hp.elim
    | outgrown => exact hp.elim
  · intro c W' hp
    obtain ⟨hk, hi⟩ := h0 c W' hp
    exact ⟨hi, hk.same lb _ hB hl1 rfl⟩
  · rintro e W2 ⟨⟨v, rfl⟩, c, (⟨hi, hl⟩ | ⟨j, hj, x, hi, hl⟩)⟩
    · exact ⟨none, _, run_endLoop hl (fun h => by cases h), hdone c _ ((hbd.own c).putObj _ hi hB hl)⟩
    · exact ⟨some x, _, run_endLoop hl (fun h => by cases h), hstop x c j _ hj ((hbd.ownX x c).putObj _ hi hB hl)⟩

/-- A block for deferred calls lies as it lay. -/
theorem BodyG.mark {tmps : Array Value} {ps : Array Tmp} {assign body : Code} {encs : Nat → Array Value} {Kp : Nat → World → World → Prop} {N B : Nat} {I : Nat → Nat → World → Prop} {Ix : Code → Nat → Nat → World → Prop} (h : BodyG F n P tmps ps assign body encs Kp N B I Ix) {D : Nat} (hD : B ≤ D) :
    BodyG F n P tmps ps assign body encs Kp N B (fun c j W => I c j W ∧ W.heap[D]? = some (.deferred (some []))) (fun x c j W => Ix x c j W ∧ W.heap[D]? = some (.deferred (some []))) := by
  have ho : ∀ x : Loop, (Obj.deferred (some [])) ≠ .loop x := fun x e => by cases e
  refine ⟨h.par, h.keepT, h.keepB, fun c => (h.own c).and (ownL_block B D _ ho), fun x c => (h.ownX x c).and (ownL_block B D _ ho), fun l c j W hl hr ⟨hi, hd⟩ hj => ?_⟩
  refine wpIn_mono (h.round l c j W hl hr hi hj) ?_
  rintro e a' W' hp
  cases e with
  | normal =>
    obtain ⟨hk, hkp, ⟨r, hr'⟩, hb⟩ := hp
    refine ⟨hk, hkp, ⟨r, hr'⟩, fun st W2 hW2 hst => wpIn_mono (hb st W2 hW2 hst) ?_⟩
    have hd' := hk.same D _ hD hd rfl
    have hne : D ≠ l := fun e => by rw [e, hr'] at hd'; cases hd'
    have hd2 : W2.heap[D]? = some (.deferred (some [])) := by rw [hW2]; exact (World.putObj_heap_other hne).trans hd'
    rintro e a3 W3 hq
    cases e with
    | normal => exact ⟨hq.1, hq.2.1, hq.2.2, hq.1.same D _ hD hd2 rfl⟩
    | ret => exact ⟨hq.1, hq.2, hq.1.same D _ hD hd2 rfl⟩
    | exit id => exact ⟨hq.1, hq.2, hq.1.same D _ hD hd2 rfl⟩
    | goto t => exact ⟨hq.1, hq.2, hq.1.same D _ hD hd2 rfl⟩
    | panic ch => exact hq.elim
    | outgrown => exact hq.elim
  | ret => exact hp.elim
  | exit id => exact hp.elim
  | goto t => exact hp.elim
  | panic ch => exact hp.elim
  | outgrown => exact hp.elim

/-- The statement at a function's own level. -/
theorem rangeG_outer {g : Operand} {ps : Array Tmp} {assign body : Code} {Q : Exit → Act → World → Prop} {a : Act} {w : World} (hro : F.round = none) (h1 : 1 ≤ n) {gf : Nat} {lbs : Array Value} (hg : a.eval g = .func (.func gf) #[] lbs) (hFg : F.fn gf) (eg : ∀ args w, (callFunc gf args).run P w = .ok (.enter gf args) w)
    {encs : Nat → Array Value} {Pre Kp : Nat → World → World → Prop} {N : Nat} {w0 : World} (hseq : SeqG F (n - 1) P gf lbs encs Pre Kp N w0) (hb0 : Below w0.heap.size w0 w)
    {I : Nat → Nat → World → Prop} {Ix : Code → Nat → Nat → World → Prop} (hbd : BodyG F n P a.tmps ps assign body encs Kp N w.heap.size I Ix)
    (h0 : ∀ c W1 W', Below w.heap.size w W1 → Pre c W1 W' → KeepsR w.heap.size W1 W' ∧ I c 0 W')
    (hdone : ∀ D c W, w.heap.size ≤ D → I c N W → W.heap[D]? = some (.deferred (some [])) → Q .normal { a with defers := { target := .collected D, args := #[] } :: a.defers } W)
    (hstop : ∀ D x c j W, w.heap.size ≤ D → j < N → Ix x c j W → W.heap[D]? = some (.deferred (some [])) → x.wpIn F n P Q { a with defers := { target := .collected D, args := #[] } :: a.defers } W) :
    (Code.rangeFunc g ps assign body).wpIn F n P Q a w := by
  refine wpIn_rangeFunc fun fn hfn => ?_
  rw [hro]
  obtain ⟨W1, hW1⟩ : ∃ W1, W1 = (w.alloc (.deferred (some []))).alloc (.loop (recOf fn a.tmps ps assign body w.heap.size .ready none)) := ⟨_, rfl⟩
  have hl1 : W1.heap[w.heap.size + 1]? = some (.loop (recOf fn a.tmps ps assign body w.heap.size .ready none)) := by
    rw [hW1]; have := World.alloc_heap_new (w.alloc (.deferred (some []))) (.loop (recOf fn a.tmps ps assign body w.heap.size .ready none)); rwa [World.size_alloc] at this
  have hd1 : W1.heap[w.heap.size]? = some (.deferred (some [])) := by rw [hW1]; exact alloc_blk (World.alloc_heap_new w _) _
  have hb1 : Below w.heap.size w W1 := by rw [hW1]; exact ((Below.refl _ w).alloc (Nat.le_refl _) _).alloc (by simp) _
  refine ⟨w.heap.size + 1, [{ target := .collected w.heap.size, args := #[] }], W1, { target := .fn (.func gf) lbs, args := #[.func (.yield (w.heap.size + 1)) #[] #[]] }, W1, gf, #[.func (.yield (w.heap.size + 1)) #[] #[]] ++ lbs, W1, ?_, ?_, ?_, ?_, fun _ => h1, ?_⟩
  · rw [hW1]; exact run_enterLoop_outer _ _ _ _ _
  · simp only [resolve, hg]
    simp [go_sem]
  · intro f' hf'; simp [Target.leads] at hf'; subst hf'; exact hFg
  · simp [invoke, go_sem, eg]
  · refine rangeG_core hseq hfn (hbd.mark (Nat.le_refl w.heap.size)) (hb0.trans (hb1.mono hb0.size)) hl1 (by omega) ?_ ?_ ?_
    · intro c W' hp
      obtain ⟨hk, hi⟩ := h0 c W1 W' hb1 hp
      exact ⟨hk, hi, hk.same _ _ (Nat.le_refl _) hd1 rfl⟩
    · rintro c W ⟨hi, hd⟩
      exact hdone w.heap.size c W (Nat.le_refl _) hi hd
    · rintro x c j W hj ⟨hi, hd⟩
      exact hstop w.heap.size x c j W (Nat.le_refl _) hj hi hd
theorem SeqG.inRound {g : Nat} {lbs : Array Value} {encs : Nat → Array Value} {Pre Kp : Nat → World → World → Prop} {N : Nat} {w : World} (l : Nat) (h : SeqG F n P g lbs encs Pre Kp N w) : SeqG (F.inRound l) n P g lbs encs Pre Kp N w := h
end
end Go.Proofs.YtnaefnojmiolbaaGreatDoor

namespace Go.Proofs.YtnaefnojmiolbaaGreatDoor
open Go.RowKit

abbrev Bs := List UInt8
/-- A text as a string's value. -/
def str (l : Bs) : ByteArray := ⟨l.toArray⟩
theorem str_toList (l : Bs) : (str l).toList = l := ByteArray.toList_mk l
theorem str_size (l : Bs) : (str l).size = l.length := by simp [str, ByteArray.size]
theorem str_data (s : ByteArray) : str s.data.toList = s := by cases s; simp [str]
theorem str_of (s : ByteArray) : str s.toList = s := by rw [ByteArray.toList_eq]; exact str_data s
theorem str_append (a b : Bs) : str a ++ str b = str (a ++ b) := ByteArray.mk_append_mk a b
theorem size_toList (s : ByteArray) : s.toList.length = s.size := by rw [ByteArray.toList_eq, Array.length_toList]; rfl

def bts (l : Bs) : List Value := l.map fun b => Value.int .u8 b.toNat
theorem bts_len (l : Bs) : (bts l).length = l.length := by simp [bts]
theorem bts_append (a b : Bs) : bts (a ++ b) = bts a ++ bts b := by simp [bts]
def bRows (l : Bs) : List (List Value) := (bts l).map fun x => [x]
theorem bRows_len (l : Bs) : (bRows l).length = l.length := by simp [bRows, bts]
theorem bRows_append (a b : Bs) : bRows (a ++ b) = bRows a ++ bRows b := by simp [bRows, bts]
theorem bRows_flat (l : Bs) : (bRows l).flatten = bts l := flat_ones _
theorem bRows_one (l : Bs) : ∀ r ∈ bRows l, ∀ u ∈ r, u.oneCell' = true := by
  intro r hr u hu
  obtain ⟨x, hx, rfl⟩ := List.mem_map.1 hr
  obtain ⟨b, _, rfl⟩ := List.mem_map.1 hx
  simp at hu; subst hu; rfl
theorem bRows_size (l : Bs) : ∀ r ∈ bRows l, r.length = 1 := by
  intro r hr
  obtain ⟨x, _, rfl⟩ := List.mem_map.1 hr
  rfl
theorem byteCells_eq (s : ByteArray) : byteCells s = bts s.toList := by unfold byteCells bts; rw [ByteArray.toList_eq]

/-- A slice value that owns the bytes l. -/
def OwnsB (w : World) (e : TypeId) (v : Value) (l : Bs) : Prop := Owns w e 1 v (bRows l)

theorem OwnsB.any {w : World} {e : TypeId} {v : Value} {l : Bs} (h : OwnsB w e v l) :
    ∃ ao cap, v = .slice ao l.length cap ∧ l.length ≤ cap ∧ cap ≤ maxLen ∧ (ao = none → l = [] ∧ cap = 0) ∧ (∀ g off, ao = some ⟨g, off, none⟩ → off = 0 ∧ v.ownBlock = some g ∧ g < w.heap.size) := by
  obtain ⟨ao, cap, rfl, h1, h2, h3, h4, h5⟩ := Owns.any h
  rw [bRows_len] at h1
  refine ⟨ao, cap, by rw [bRows_len], h1, h2, fun e => ?_, fun g off e => ?_⟩
  · obtain ⟨a, b⟩ := h4 e
    refine ⟨?_, b⟩
    have := bRows_len l
    rw [a] at this
    exact List.eq_nil_of_length_eq_zero this.symm
  · obtain ⟨a, b⟩ := h5 g off e
    exact ⟨a, b, Owns.lt h b⟩
theorem OwnsB.cells {w : World} {e : TypeId} {ao : Option Addr} {n cap : Nat} {l : Bs} (h : OwnsB w e (.slice ao n cap) l) (i : Nat) (hi : i < l.length) : ∃ g, ao = some ⟨g, 0, none⟩ ∧ w.cell? ⟨g, i, none⟩ = some (.int .u8 l[i].toNat) := by
  obtain ⟨ao', cap', hv, _, _, hl, _, h5⟩ := Owns.any h
  cases hv
  obtain ⟨g, off, rfl, _, _, hc⟩ := hl i [.int .u8 l[i].toNat] (by simp [bRows, bts, hi])
  obtain ⟨rfl, _⟩ := h5 g off rfl
  have := hc 0 _ rfl
  rw [Nat.mul_one, Nat.zero_add, Nat.add_zero] at this
  exact ⟨g, rfl, this⟩

section
variable {P : Program}

/-- 'string(b)' where b owns its bytes. -/
theorem run_back {w : World} {src dst e : TypeId} {ao : Option Addr} {n cap : Nat} {l : Bs} (h : OwnsB w e (.slice ao n cap) l) (hs : P.underlying src = some (.slice e)) (he : P.underlying e = some (.int .u8)) (hd : P.underlying dst = some .string) :
    (convert src dst (.slice ao n cap)).run P w = .ok (.string (str l)) w := by
  have hn : n = l.length := by
    obtain ⟨ao', cap', hv, _⟩ := h.any
    cases hv; rfl
  subst hn
  cases ao with
  | some a =>
    refine run_convert_bytes_back w src dst e a cap l hs he hd fun j hj => ?_
    obtain ⟨g, e, hc⟩ := h.cells j hj
    cases e
    rw [Addr.add_lit, Nat.zero_add]
    exact hc
  | none =>
    obtain ⟨ao', cap', hv, _, _, hz, _⟩ := h.any
    cases hv
    obtain ⟨rfl, rfl⟩ := hz rfl
    rw [run_convert_bytes_string w src dst e none _ _ hs he hd]
    rfl

/-- append(dst, s...): a string's bytes onto owned bytes. -/
theorem run_append_str (w : World) (t tx ty e : TypeId) (ht : P.underlying t = some (.slice e)) (htx : P.underlying tx = some .string)
    (hinfo : (P.info? e).map (fun i => (i.zero, i.size, i.bytes)) = some (some (.int .u8 0), 1, 1))
    (v : Value) (l : Bs) (hown : OwnsB w e v l) (s : ByteArray) (hbytes : l.length + s.size ≤ 140737488355328) :
    ∃ v' w', (Builtin.append_ #[t, tx] ty #[v, .string s]).run P w = .ok v' w' ∧ OwnsB w' e v' (l ++ s.toList) ∧ w.grownBy w' v.ownBlock ∧
      (v'.ownBlock = v.ownBlock ∨ ∃ k, v'.ownBlock = some k ∧ w.heap.size ≤ k) := by
  obtain ⟨i, hi, hz, hs, hb⟩ := info_parts hinfo
  have hbl : (byteCells s).length = s.size := byteCells_length s
  have hs63 : l.length + s.size ≤ 9223372036854775807 := by omega
  have hrows : ∀ w' v' n, w'.ownsRow 0 e 1 v' n (bts l ++ byteCells s) → n = l.length + s.size → OwnsB w' e v' (l ++ s.toList) := by
    intro w' v' n h hn
    subst hn
    have e1 : (bRows (l ++ s.toList)).length = l.length + s.size := by rw [bRows_len, List.length_append, size_toList]
    exact ⟨by rw [e1, bRows_flat, bts_append, ← byteCells_eq]; exact h, bRows_size _, bRows_one _⟩
  have grown : ∀ (ao : Option Addr) (cap : Nat), (Builtin.firstCells i.size l.length (.slice ao l.length cap)).run P w.drew = .ok (bts l).toArray w.drew → cap < l.length + s.size → v = .slice ao l.length cap →
      ∃ v' w', (Builtin.append_ #[t, tx] ty #[v, .string s]).run P w = .ok v' w' ∧ OwnsB w' e v' (l ++ s.toList) ∧ w.grownBy w' v.ownBlock ∧ (v'.ownBlock = v.ownBlock ∨ ∃ k, v'.ownBlock = some k ∧ w.heap.size ≤ k) := by
    intro ao cap hold hg hv
    subst hv
    have hsrc : Src P i.size tx (.string s) s.size (byteCells s) w := by rw [hs]; exact Src.ofString w htx s
    have hr := run_append_grow_src (P := P) w t tx ty e i (.int .u8 0) ht hi hz ao l.length cap (bts l) hold (.string s) s.size (byteCells s) hsrc hg (by omega) (growslice_fits hg (by rw [hb]; omega))
    refine ⟨_, _, hr, hrows _ _ _ ⟨by simp [bts_len, hbl], .inr ⟨w.heap.size, _, _, rfl, Nat.zero_le _, heap_alloc_new w.drew _, grownCap_ge w _ _ _, grownCap_le_maxLen w _ _ _ (by unfold maxLen; omega), ?_, ?_⟩⟩ rfl, ⟨rfl, rfl, rfl, by simp, fun k hk _ => Below.heap_alloc w.drew _ k hk⟩, .inr ⟨_, rfl, Nat.le_refl _⟩⟩
    · have := grownCap_ge w (l.length + s.size) cap e
      simp [size_zeroCells, bts_len, hbl, Value.cells]; omega
    · rw [Array.toList_append, List.take_append_of_le_length (by simp [bts_len, hbl])]
      rw [List.take_of_length_le (by simp [bts_len, hbl])]
  have hrow := hown.row
  rw [bRows_len, bRows_flat] at hrow
  rcases hrow.2 with ⟨rfl, hn⟩ | ⟨g, cap, cur, rfl, hb0, hgg, hnc, hcm, hcs, htake⟩
  · have hl : l = [] := List.eq_nil_of_length_eq_zero hn
    subst hl
    by_cases hz0 : s.size = 0
    · refine ⟨.slice none 0 0, w, ?_, ?_, World.grownBy.refl _ _, .inl rfl⟩
      · have h0 : (byteCells s) = [] := List.eq_nil_of_length_eq_zero (by rw [hbl, hz0])
        have hf := firstCells_string (P := P) s w
        simp [Builtin.append_, run_underlying ht, run_underlying htx, sizeOf, typeInfo, hi, Builtin.lenOf, hz0, hs]
        rw [show (Builtin.firstCells 1 0 (.string s)).run P w = .ok #[] w by rw [← hz0, hf, h0]]
        simp
      · have : s.toList = [] := List.eq_nil_of_length_eq_zero (by rw [size_toList, hz0])
        rw [this]; exact hown
    · exact grown none 0 (run_firstCells_none _ _ _ _ _) (by simp; omega) rfl
  · by_cases hroom : l.length + s.size ≤ cap
    · have hst := run_storeCells_at P g l.length e (byteCells s) 0 cur w hgg (by rw [hbl, hcs]; omega) (fun u hu => by obtain ⟨_, _, rfl⟩ := List.mem_map.1 hu; rfl)
      refine ⟨.slice (some ⟨g, 0, none⟩) (l.length + s.size) cap, w.setRow g (cur.toList.take (l.length + 0) ++ byteCells s ++ cur.toList.drop (l.length + 0 + (byteCells s).length)).toArray, ?_, ?_, ⟨rfl, rfl, rfl, by simp, fun k _ hk => setRow_other w g k _ (fun e => hk (by simp [Value.ownBlock, e]))⟩, .inl rfl⟩
      · have hf := firstCells_string (P := P) s w
        simp [Builtin.append_, run_underlying ht, run_underlying htx, sizeOf, typeInfo, hi, Builtin.lenOf, hroom, hs, hf, Addr.add_lit, hst]
      · refine hrows _ _ _ ⟨by simp [bts_len, hbl], .inr ⟨g, cap, _, rfl, Nat.zero_le _, setRow_heap w g cur _ e _ hgg, hroom, hcm, ?_, ?_⟩⟩ rfl
        · simp [hbl]; omega
        · simp only [Nat.mul_one] at htake ⊢
          rw [Nat.add_zero, htake, List.toList_toArray, List.take_append_of_le_length (by simp [bts_len, hbl]), List.take_of_length_le (by simp [bts_len, hbl])]
    · refine grown (some ⟨g, 0, none⟩) cap (run_firstCells_some (P := P) w.drew i.size l.length ⟨g, 0, none⟩ l.length cap (bts l) (by rw [hs, bts_len, Nat.mul_one]) ?_) (by omega) rfl
      intro j u hj
      have := hrow.cells (g := g) rfl j u hj
      simpa using this

theorem wp_append_str {w : World} {o : Oper} {a : Act} {K : Act → World → Prop} {Q : Exit → Act → World → Prop} (sl x : Operand) (t tx : TypeId)
    (ho : o.op = .call { callee := .builtin .append, args := #[sl, x], argTypes := #[t, tx] }) (e : TypeId) (ht : P.underlying t = some (.slice e)) (htx : P.underlying tx = some .string)
    (hinfo : (P.info? e).map (fun i => (i.zero, i.size, i.bytes)) = some (some (.int .u8 0), 1, 1))
    (v : Value) (l : Bs) (hsl : a.eval sl = v) (hown : OwnsB w e v l) (s : ByteArray) (hx : a.eval x = .string s) (hbytes : l.length + s.size ≤ 140737488355328)
    (h : ∀ v' w', OwnsB w' e v' (l ++ s.toList) → w.grownBy w' v.ownBlock → (v'.ownBlock = v.ownBlock ∨ ∃ k, v'.ownBlock = some k ∧ w.heap.size ≤ k) → K (a.put o.dst v') w') : o.wp P a w K Q := by
  obtain ⟨v', w', hr, h2, h3, h4⟩ := run_append_str (P := P) w t tx o.type e ht htx hinfo v l hown s hbytes
  unfold Oper.wp execOp
  simp only [ho, resolve, invoke, builtin, Sem.run_bind, Sem.run_pure, Result.andThen_ok, List.map_toArray, List.map_cons, List.map_nil, hsl, hx, hr]
  exact h v' w' h2 h3 h4

theorem wpList_append_str {w : World} {ops : Array Oper} {rest : List Oper} {o : Oper} {a : Act} {Q : Exit → Act → World → Prop} (hgd : o.guard = none) (sl x : Operand) (t tx : TypeId)
    (ho : o.op = .call { callee := .builtin .append, args := #[sl, x], argTypes := #[t, tx] }) (e : TypeId) (ht : P.underlying t = some (.slice e)) (htx : P.underlying tx = some .string)
    (hinfo : (P.info? e).map (fun i => (i.zero, i.size, i.bytes)) = some (some (.int .u8 0), 1, 1))
    (v : Value) (l : Bs) (hsl : a.eval sl = v) (hown : OwnsB w e v l) (s : ByteArray) (hx : a.eval x = .string s) (hbytes : l.length + s.size ≤ 140737488355328)
    (h : ∀ v' w', OwnsB w' e v' (l ++ s.toList) → w.grownBy w' v.ownBlock → (v'.ownBlock = v.ownBlock ∨ ∃ k, v'.ownBlock = some k ∧ w.heap.size ≤ k) → wpList P ops Q rest (a.put o.dst v') w') : wpList P ops Q (o :: rest) a w :=
  wpList_plain hgd fun _ hK => wp_append_str sl x t tx ho e ht htx hinfo v l hsl hown s hx hbytes fun v' w' h2 h3 h4 => hK _ _ (h v' w' h2 h3 h4)
end
end Go.Proofs.YtnaefnojmiolbaaGreatDoor

namespace Go.Proofs.YtnaefnojmiolbaaGreatDoor

def isBlank (c : UInt8) : Bool := c.toNat == 32 || (decide (9 ≤ c.toNat) && decide (c.toNat ≤ 13))
def isDig (c : UInt8) : Bool := decide (48 ≤ c.toNat) && decide (c.toNat ≤ 57)
def trimB (l : Bs) : Bs := l.dropWhile isBlank
theorem isDig_iff (c : UInt8) : isDig c = true ↔ 48 ≤ c.toNat ∧ c.toNat ≤ 57 := by simp [isDig]
theorem isBlank_iff (c : UInt8) : isBlank c = true ↔ c.toNat = 32 ∨ (9 ≤ c.toNat ∧ c.toNat ≤ 13) := by simp [isBlank]
def signLen (l : Bs) : Nat := match l with | c :: _ => if c.toNat = 45 ∨ c.toNat = 43 then 1 else 0 | [] => 0
def isNeg (l : Bs) : Bool := match l with | c :: _ => decide (c.toNat = 45) | [] => false
def digs (l : Bs) : Bs := (l.drop (signLen l)).takeWhile isDig
def dec (acc : Nat) (ds : Bs) : Nat := ds.foldl (fun a c => a * 10 + (c.toNat - 48)) acc
/-- Held within what numbers can be. -/
def sat (n : Bool) (u : Nat) : Int := if n then (if 9223372036854775808 < u then -9223372036854775808 else -(u : Int)) else (if 9223372036854775808 ≤ u then 9223372036854775807 else (u : Int))
/-- The number that a text begins with, and what stands behind it and its blanks. -/
def numOf (l : Bs) : Option (Int × Bs) :=
  if digs (trimB l) = [] then none else some (sat (isNeg (trimB l)) (dec 0 (digs (trimB l))), trimB ((trimB l).drop (signLen (trimB l) + (digs (trimB l)).length)))
def numericP (l : Bs) : Int × Bool := match numOf l with | some (n, []) => (n, true) | _ => (0, false)
def beginsP (l : Bs) : Int := match numOf l with | some (n, _) => n | none => 0

theorem dec_ge : ∀ (ds : Bs) (acc : Nat), acc ≤ dec acc ds
  | [], _ => Nat.le_refl _
  | c :: r, acc => by
    have := dec_ge r (acc * 10 + (c.toNat - 48))
    show acc ≤ dec (acc * 10 + (c.toNat - 48)) r
    omega
theorem dec_snoc (ds : Bs) (c : UInt8) (acc : Nat) : dec acc (ds ++ [c]) = dec acc ds * 10 + (c.toNat - 48) := by unfold dec; rw [List.foldl_append]; rfl
theorem dec_append (a b : Bs) (acc : Nat) : dec acc (a ++ b) = dec (dec acc a) b := by unfold dec; rw [List.foldl_append]

theorem parse_digs : ∀ (ds : Bs) (acc : Nat), (∀ c ∈ ds, isDig c = true) → (dec acc ds < 18446744073709551616 → Lib.parseUint10 acc ds = .ok (dec acc ds)) ∧ (18446744073709551616 ≤ dec acc ds → acc < 18446744073709551616 → Lib.parseUint10 acc ds = .range)
  | [], acc, _ => ⟨fun _ => rfl, fun h h' => by have : dec acc [] = acc := rfl; omega⟩
  | c :: r, acc, h => by
    have hc := (isDig_iff c).1 (h c (by simp))
    have hr : ∀ x ∈ r, isDig x = true := fun x hx => h x (by simp [hx])
    obtain ⟨h1, h2⟩ := parse_digs r (acc * 10 + (c.toNat - 48)) hr
    have hg := dec_ge r (acc * 10 + (c.toNat - 48))
    have hd : dec acc (c :: r) = dec (acc * 10 + (c.toNat - 48)) r := rfl
    rw [hd]
    unfold Lib.parseUint10
    rw [if_pos hc]
    refine ⟨fun hlt => ?_, fun hge hacc => ?_⟩
    · rw [if_neg (by omega), if_neg (by omega)]
      exact h1 hlt
    · by_cases ha : 1844674407370955162 ≤ acc
      · rw [if_pos ha]
      · rw [if_neg ha]
        by_cases hb : 18446744073709551616 ≤ acc * 10 + (c.toNat - 48)
        · rw [if_pos hb]
        · rw [if_neg hb]
          exact h2 hge (by omega)

def numVal (e : Lib.NumEnd Int) (r : Int) : Int := match e with | .ok v => v | .range => r | _ => 0
/-- What ParseInt tells as a number, whatever the error. -/
def valueP (l : Bs) : Int := numVal (Lib.parseIntB 64 l) (Lib.intSat 64 l)

theorem mag_digs {ds : Bs} (h : ∀ c ∈ ds, isDig c = true) (hne : ds ≠ []) : Lib.parseMag ds = if dec 0 ds < 18446744073709551616 then .ok (dec 0 ds) else .range := by
  unfold Lib.parseMag
  rw [if_neg hne]
  obtain ⟨h1, h2⟩ := parse_digs ds 0 h
  split
  · rename_i hlt; exact h1 hlt
  · rename_i hge; exact h2 (by omega) (by decide)
theorem takeWhile_all {p : UInt8 → Bool} (l : Bs) : ∀ c ∈ l.takeWhile p, p c = true := by
  intro c hc
  induction l with
  | nil => cases hc
  | cons a r ih =>
    rw [List.takeWhile_cons] at hc
    split at hc
    · rcases List.mem_cons.1 hc with h | h
      · subst h; assumption
      · exact ih h
    · cases hc
/-! The document's way: a number held at each digit. -/
theorem sat_step_pos {u d : Nat} (hd : d ≤ 9) (hu : sat false u ≠ 9223372036854775807) :
    (if sat false u > (9223372036854775807 - (d : Int)).tdiv 10 then 9223372036854775807 else sat false u * 10 + d) = sat false (u * 10 + d) := by
  have hu' : u < 9223372036854775807 := by
    unfold sat at hu
    simp only [Bool.false_eq_true, if_false] at hu
    split at hu
    · exact absurd rfl hu
    · omega
  have e : sat false u = u := by unfold sat; simp only [Bool.false_eq_true, if_false]; rw [if_neg (by omega)]
  have ht : (9223372036854775807 - (d : Int)).tdiv 10 = (9223372036854775807 - (d : Int)) / 10 := Int.tdiv_eq_ediv_of_nonneg (by omega)
  rw [e, ht]
  unfold sat
  simp only [Bool.false_eq_true, if_false]
  by_cases h : (u : Int) > (9223372036854775807 - (d : Int)) / 10
  · rw [if_pos h, if_pos (by omega)]
  · rw [if_neg h, if_neg (by omega)]; omega
theorem sat_step_neg {u d : Nat} (hd : d ≤ 9) (hu : sat true u ≠ -9223372036854775808) :
    (if sat true u < (-9223372036854775808 + (d : Int)).tdiv 10 then -9223372036854775808 else sat true u * 10 - d) = sat true (u * 10 + d) := by
  have hu' : u < 9223372036854775808 := by
    unfold sat at hu
    simp only [if_true] at hu
    split at hu
    · exact absurd rfl hu
    · omega
  have e : sat true u = -(u : Int) := by unfold sat; simp only [if_true]; rw [if_neg (by omega)]
  have ht : (-9223372036854775808 + (d : Int)).tdiv 10 = -((9223372036854775808 - (d : Int)) / 10) := by
    rw [show -9223372036854775808 + (d : Int) = -(9223372036854775808 - (d : Int)) by omega, Int.neg_tdiv, Int.tdiv_eq_ediv_of_nonneg (by omega)]
  rw [e, ht]
  unfold sat
  simp only [if_true]
  by_cases h : -(u : Int) < -((9223372036854775808 - (d : Int)) / 10)
  · rw [if_pos h]
    split <;> omega
  · rw [if_neg h, if_neg (by omega)]; omega
theorem sat_stuck {n : Bool} {u : Nat} (h : sat n u = -9223372036854775808 ∨ sat n u = 9223372036854775807) (r : Bs) : sat n (dec u r) = sat n u := by
  have hg := dec_ge r u
  unfold sat at h ⊢
  cases n with
  | true =>
    simp only [if_true] at h ⊢
    have : 9223372036854775808 ≤ u := by
      rcases h with h | h
      · split at h <;> omega
      · split at h <;> omega
    split <;> split <;> omega
  | false =>
    simp only [Bool.false_eq_true, if_false] at h ⊢
    have : 9223372036854775807 ≤ u := by
      rcases h with h | h
      · split at h <;> omega
      · split at h <;> omega
    split <;> split <;> omega

/-! The digits. -/
def digitsP (u : Nat) : Bs := if u = 0 then [] else Lib.decDigits u
theorem digitsP_step {u : Nat} (h : u ≠ 0) : digitsP u = digitsP (u / 10) ++ [UInt8.ofNat (48 + u % 10)] := by
  unfold digitsP
  rw [if_neg h]
  by_cases h10 : u < 10
  · rw [if_pos (by omega), Lib.decDigits, dif_pos h10, Nat.mod_eq_of_lt h10]; rfl
  · rw [if_neg (by omega), Lib.decDigits, dif_neg h10]
theorem ofNat_toNat {k : Nat} (h : k < 256) : (UInt8.ofNat k).toNat = k := by rw [UInt8.toNat_ofNat']; omega
theorem decDigits_dig (u : Nat) : ∀ c ∈ Lib.decDigits u, isDig c = true := by
  induction u using Nat.strongRecOn with
  | _ u ih =>
    rw [Lib.decDigits]
    split
    · intro c hc; rw [List.mem_singleton.1 hc, isDig_iff, ofNat_toNat (by omega)]; omega
    · intro c hc
      rcases List.mem_append.1 hc with h | h
      · exact ih (u / 10) (by omega) c h
      · rw [List.mem_singleton.1 h, isDig_iff, ofNat_toNat (by omega)]; omega
theorem decDigits_dec (u : Nat) : dec 0 (Lib.decDigits u) = u := by
  induction u using Nat.strongRecOn with
  | _ u ih =>
    rw [Lib.decDigits]
    split
    · show 0 * 10 + ((UInt8.ofNat (48 + u)).toNat - 48) = u
      rw [ofNat_toNat (by omega)]; omega
    · rw [dec_snoc, ih (u / 10) (by omega), ofNat_toNat (by omega)]; omega
theorem decDigits_ne (u : Nat) : Lib.decDigits u ≠ [] := by
  rw [Lib.decDigits]
  split
  · simp
  · simp
end Go.Proofs.YtnaefnojmiolbaaGreatDoor
