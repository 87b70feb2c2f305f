/-
  append, inside a fence. Of no program.
-/
import Derived.Test.YtgpdhmgbmhfooaaDoorRangeG
namespace Go.Proofs.YtgpdhmgbmhfooaaDoor
open Go.RowKit

section
variable {P : Program} {F : Fence} {n : Nat}
theorem wpListIn_append_rows {w : World} {ops : Array Oper} {rest : List Oper} {o : Oper} {a : Act} {Q : Exit → Act → World → Prop} (hgd : o.guard = none) (s x : Operand) (t : TypeId)
    (ho : o.op = .call { callee := .builtin .append, args := #[s, x], argTypes := #[t, t] }) (e : TypeId) (z : Value) (size bytes : Nat) (ht : P.underlying t = some (.slice e))
    (hinfo : (P.info? e).map (fun i => (i.zero, i.size, i.bytes)) = some (some z, size, bytes)) (hzs : z.cells.size = size) (hsz : 0 < size)
    (v : Value) (rows : List (List Value)) (hs : a.eval s = v) (hown : Owns w e size v rows)
    (ao : Option Addr) (m c : Nat) (news : List (List Value)) (hx : a.eval x = .slice ao m c) (hn : m = news.length) (hnone : ao = none → news = [] ∧ c = 0) (hlies : Lies w size ao news) (h1 : ∀ r ∈ news, ∀ u ∈ r, u.oneCell' = true) (hlen : ∀ r ∈ news, r.length = size)
    (h63 : rows.length + news.length ≤ maxLen) (hbytes : (rows.length + news.length) * bytes ≤ 140737488355328)
    (h : ∀ v' w', Owns w' e size v' (rows ++ news) → w.grownBy w' v.ownBlock → (v'.ownBlock = v.ownBlock ∨ ∃ k, v'.ownBlock = some k ∧ w.heap.size ≤ k) → wpListIn F n P ops Q rest (a.put o.dst v') w') :
    wpListIn F n P ops Q (o :: rest) a w := by
  subst hn
  refine wpListIn_plain hgd fun K hK' => ?_
  obtain ⟨v', w', hrun, h2, h3, h4⟩ := run_append_rows (P := P) w t o.type e z size bytes ht hinfo hzs hsz v rows hown ao c news hnone hlies h1 hlen h63 hbytes
  unfold Oper.wpIn
  refine ⟨?_, ?_⟩
  · simp [Oper.about, ho, resolve, Target.leads, Sem.run_pure]
  · rw [Oper.semAt_plain F _ _ (by rw [ho]; intro c hc'; cases hc')]
    simp [execOp, ho, resolve, invoke, builtin, hs, hx, hrun, Result.andThen]
    exact hK' _ _ (h v' w' h2 h3 h4)
end
end Go.Proofs.YtgpdhmgbmhfooaaDoor
