/-
  append that leaves the old slice as it was: for what is appended for a moment. Of no program.
-/
import Derived.Test.YtobjmajkcfhpoaaDoorBase
namespace Go.Proofs.YtobjmajkcfhpoaaDoor
open Go.RowKit

/-- The first rows of a slice that owns more, in the same block. -/
theorem Owns.front {w w' : World} {e : TypeId} {size g n n2 cap : Nat} {rows news : List (List Value)} (h : Owns w e size (.slice (some ⟨g, 0, none⟩) n cap) rows) (h2 : Owns w' e size (.slice (some ⟨g, 0, none⟩) n2 cap) (rows ++ news)) : Owns w' e size (.slice (some ⟨g, 0, none⟩) n cap) rows := by
  refine ⟨⟨?_, ?_⟩, h.len, h.one⟩
  · exact h.row.1
  · rcases h.row.2 with ⟨hn, _⟩ | ⟨g1, cap1, cur1, e1, hb1, hg1, h3, h4, h5, h6⟩
    · cases hn
    · rcases h2.row.2 with ⟨hn, _⟩ | ⟨g2, cap3, cur2, e2, hb2, hg2, h7, h8, h9, h10⟩
      · cases hn
      · cases e1
        cases e2
        refine .inr ⟨g, cap, cur2, rfl, hb1, hg2, h3, h4, h9, ?_⟩
        have hl := flatten_length size rows h.len
        have hl2 := flatten_length size (rows ++ news) h2.len
        rw [List.flatten_append] at h10
        have h11 := congrArg (List.take (rows.length * size)) h10
        rw [List.take_take, ← hl, List.take_left] at h11
        rw [← hl]
        rw [Nat.min_eq_left (by rw [List.length_append, Nat.add_mul, hl]; omega)] at h11
        exact h11
section
variable {P : Program}
theorem run_append_keep (w : World) (t ty e : TypeId) (z : Value) (size bytes : Nat) (ht : P.underlying t = some (.slice e))
    (hinfo : (P.info? e).map (fun i => (i.zero, i.size, i.bytes)) = some (some z, size, bytes)) (hzs : z.cells.size = size) (hsz : 0 < size)
    (v : Value) (rows : List (List Value)) (hown : Owns w e size v rows)
    (ao : Option Addr) (c : Nat) (news : List (List Value)) (hnone : ao = none → news = [] ∧ c = 0) (hlies : Lies w size ao news) (h1 : ∀ r ∈ news, ∀ u ∈ r, u.oneCell' = true) (hlen : ∀ r ∈ news, r.length = size) (hnz : news ≠ [])
    (h63 : rows.length + news.length ≤ maxLen) (hbytes : (rows.length + news.length) * bytes ≤ 140737488355328) :
    ∃ v' w', (Builtin.append_ #[t, t] ty #[v, .slice ao news.length c]).run P w = .ok v' w' ∧ Owns w' e size v' (rows ++ news) ∧ w.grownBy w' v.ownBlock ∧
      (v'.ownBlock = v.ownBlock ∨ ∃ k, v'.ownBlock = some k ∧ w.heap.size ≤ k) ∧ Owns w' e size v rows := by
  obtain ⟨i, hi, hz, hs, hb⟩ := info_parts hinfo
  have hlenA : ∀ r ∈ rows ++ news, r.length = size := fun r hr => by exact (List.mem_append.1 hr).elim (hown.len r) (hlen r)
  have hone : ∀ r ∈ rows ++ news, ∀ u ∈ r, u.oneCell' = true := fun r hr => by exact (List.mem_append.1 hr).elim (hown.one r) (h1 r)
  have hfl : news.flatten.length = news.length * size := flatten_length size news hlen
  have h1f : ∀ u ∈ news.flatten, u.oneCell' = true := fun u hu => by obtain ⟨r, hr, hur⟩ := List.mem_flatten.1 hu; exact h1 r hr u hur
  · obtain ⟨r0, rest, rfl⟩ := List.exists_cons_of_ne_nil hnz
    obtain ⟨g0, off0, rfl, hg0, _, _⟩ := hlies 0 r0 rfl
    have hnews : ∀ j u, (r0 :: rest).flatten[j]? = some u → w.cell? ((⟨g0, off0, none⟩ : Addr).add j) = some u := by
      intro j u hj
      have hjl : j < (r0 :: rest).length * size := by rw [← hfl]; exact (List.getElem?_eq_some_iff.1 hj).1
      have hq : j / size < (r0 :: rest).length := (Nat.div_lt_iff_lt_mul hsz).2 hjl
      have hm : j % size < size := Nat.mod_lt _ hsz
      obtain ⟨g1, off1, e1, _, hl1, hc1⟩ := hlies (j / size) _ (List.getElem?_eq_getElem hq)
      cases e1
      have hgt := flatten_get size (r0 :: rest) hlen (j / size) _ (j % size) (List.getElem?_eq_getElem hq) hm
      rw [show j / size * size + j % size = j by rw [Nat.mul_comm]; exact Nat.div_add_mod j size] at hgt
      rw [Addr.add_lit, ← hc1 (j % size) u (by rw [← hgt]; exact hj), show off0 + j / size * size + j % size = off0 + j by rw [Nat.add_assoc, Nat.mul_comm, Nat.div_add_mod]]
    rcases hown.row.2 with ⟨rfl, hn⟩ | ⟨g, cap, cur, rfl, hb0, hgg, hnc, hcm, hcs, htake⟩
    · have hrows : rows = [] := List.eq_nil_of_length_eq_zero hn
      subst hrows
      obtain ⟨v', w', hr, ho, hg, hnil⟩ := run_append_own (P := P) w w.heap.size t ty e i z size bytes ht hi hz hs hb hzs hsz (.slice none 0 0) 0 [] (World.ownsRow_nil w _ e size) ⟨g0, off0, none⟩ (r0 :: rest).length c (r0 :: rest).flatten hfl hnews h1f (by simpa using h63) (by simpa using hbytes) (Nat.le_refl _)
      refine ⟨v', w', hr, ⟨?_, hlenA, hone⟩, hg, ?_, Owns.empty _ _ _⟩
      · refine ⟨by simpa using ho.1, ?_⟩
        rcases ho.2 with ⟨h1, h2⟩ | ⟨g', cap', cur', h1, h2, h3⟩
        · simp at h2
        · exact .inr ⟨g', cap', cur', by simpa using h1, Nat.zero_le _, by simpa using h3⟩
      · rcases ho.2 with ⟨h1, h2⟩ | ⟨g', cap', cur', h1, h2, h3⟩
        · simp at h2
        · subst h1; exact .inr ⟨g', rfl, h2⟩
    · by_cases hroom : rows.length + (r0 :: rest).length ≤ cap
      · obtain ⟨w', hr, ho, hg⟩ := run_append_fits (P := P) w 0 t ty e i size ht hi hs g rows.length cap rows.flatten hown.row ⟨g0, off0, none⟩ (r0 :: rest).length c (r0 :: rest).flatten hfl hnews h1f hroom
        exact ⟨_, w', hr, ⟨by simpa using ho, hlenA, hone⟩, hg, .inl rfl, Owns.front (news := r0 :: rest) hown ⟨by simpa using ho, hlenA, hone⟩⟩
      · obtain ⟨v', w', hr, ho, hg⟩ := run_append_arg_grows (P := P) w t ty e i z size bytes ht hi hz hs hb hzs hsz ⟨g, 0, none⟩ rows.length cap rows.flatten (flatten_length size rows hown.len) (hown.row.cells (g := g) rfl) ⟨g0, off0, none⟩ (r0 :: rest).length c (r0 :: rest).flatten hfl hnews (by omega) h63 hbytes
        refine ⟨v', w', hr, ⟨?_, hlenA, hone⟩, ⟨hg.os, hg.tape, hg.output, hg.size, fun k hk _ => hg.block k hk (by simp)⟩, ?_, hown.kept fun k e => hg.block k (hown.lt e) (by simp)⟩
        · refine ⟨by simpa using ho.1, ?_⟩
          rcases ho.2 with ⟨h1, h2⟩ | ⟨g', cap', cur', h1, h2, h3⟩
          · simp at h2
          · exact .inr ⟨g', cap', cur', by simpa using h1, Nat.zero_le _, by simpa using h3⟩
        · rcases ho.2 with ⟨h1, h2⟩ | ⟨g', cap', cur', h1, h2, h3⟩
          · simp at h2
          · subst h1; exact .inr ⟨g', rfl, h2⟩

theorem wp_append_keep {w : World} {o : Oper} {a : Act} {K : Act → World → Prop} {Q : Exit → Act → World → Prop} (s x : Operand) (t : TypeId)
    (ho : o.op = .call { callee := .builtin .append, args := #[s, x], argTypes := #[t, t] }) (e : TypeId) (z : Value) (size bytes : Nat) (ht : P.underlying t = some (.slice e))
    (hinfo : (P.info? e).map (fun i => (i.zero, i.size, i.bytes)) = some (some z, size, bytes)) (hzs : z.cells.size = size) (hsz : 0 < size)
    (v : Value) (rows : List (List Value)) (hs : a.eval s = v) (hown : Owns w e size v rows)
    (ao : Option Addr) (n c : Nat) (news : List (List Value)) (hx : a.eval x = .slice ao n c) (hn : n = news.length) (hnone : ao = none → news = [] ∧ c = 0) (hlies : Lies w size ao news) (h1 : ∀ r ∈ news, ∀ u ∈ r, u.oneCell' = true) (hlen : ∀ r ∈ news, r.length = size) (hnz : news ≠ [])
    (h63 : rows.length + news.length ≤ maxLen) (hbytes : (rows.length + news.length) * bytes ≤ 140737488355328)
    (h : ∀ v' w', Owns w' e size v' (rows ++ news) → w.grownBy w' v.ownBlock → (v'.ownBlock = v.ownBlock ∨ ∃ k, v'.ownBlock = some k ∧ w.heap.size ≤ k) → Owns w' e size v rows → K (a.put o.dst v') w') : o.wp P a w K Q := by
  subst hn
  obtain ⟨v', w', hr, h2, h3, h4, h5⟩ := run_append_keep (P := P) w t o.type e z size bytes ht hinfo hzs hsz v rows hown ao c news hnone hlies h1 hlen hnz h63 hbytes
  unfold Oper.wp execOp
  simp only [ho, resolve, invoke, builtin, Sem.run_bind, Sem.run_pure, Result.andThen_ok, List.map_toArray, List.map_cons, List.map_nil, hs, hx, hr]
  exact h v' w' h2 h3 h4 h5

theorem step_append_keep {w : World} {ops : Array Oper} {o : Oper} {a : Act} {K : Act → World → Prop} {Q : Exit → Act → World → Prop} {E : Prop} (hw : Region.wanted o (yielded ops a.tmps) = true) (s x : Operand) (t : TypeId)
    (ho : o.op = .call { callee := .builtin .append, args := #[s, x], argTypes := #[t, t] }) (e : TypeId) (z : Value) (size bytes : Nat) (ht : P.underlying t = some (.slice e))
    (hinfo : (P.info? e).map (fun i => (i.zero, i.size, i.bytes)) = some (some z, size, bytes)) (hzs : z.cells.size = size) (hsz : 0 < size)
    (v : Value) (rows : List (List Value)) (hs : a.eval s = v) (hown : Owns w e size v rows)
    (ao : Option Addr) (n c : Nat) (news : List (List Value)) (hx : a.eval x = .slice ao n c) (hn : n = news.length) (hnone : ao = none → news = [] ∧ c = 0) (hlies : Lies w size ao news) (h1 : ∀ r ∈ news, ∀ u ∈ r, u.oneCell' = true) (hlen : ∀ r ∈ news, r.length = size) (hnz : news ≠ [])
    (h63 : rows.length + news.length ≤ maxLen) (hbytes : (rows.length + news.length) * bytes ≤ 140737488355328)
    (h : ∀ v' w', Owns w' e size v' (rows ++ news) → w.grownBy w' v.ownBlock → (v'.ownBlock = v.ownBlock ∨ ∃ k, v'.ownBlock = some k ∧ w.heap.size ≤ k) → Owns w' e size v rows → K (a.put o.dst v') w') :
    if Region.wanted o (yielded ops a.tmps) = true then Oper.wp P o a w K Q else E := by
  rw [if_pos hw]
  exact wp_append_keep s x t ho e z size bytes ht hinfo hzs hsz v rows hs hown ao n c news hx hn hnone hlies h1 hlen hnz h63 hbytes h
end
end Go.Proofs.YtobjmajkcfhpoaaDoor
