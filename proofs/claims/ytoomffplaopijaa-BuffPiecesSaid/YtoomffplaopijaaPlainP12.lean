/-
  Buffers that make capitals, one on another: what comes to the bottom in the end, said without a program.
-/
import Derived.Test.YtoomffplaopijaaFlat12
namespace Go.Proofs.Ytoomffplaopijaa

def ups (l : Bs) : Bs := l.map up1
theorem up1_twice (b : UInt8) : up1 (up1 b) = up1 b := by
  unfold up1
  by_cases h : 97 ≤ b.toNat ∧ b.toNat ≤ 122
  · rw [if_pos h]
    have e : (b - 32).toNat = b.toNat - 32 := by
      rw [UInt8.toNat_sub_of_le]
      · rfl
      · rw [UInt8.le_iff_toNat_le]; show 32 ≤ b.toNat; omega
    rw [if_neg (by rw [e]; omega)]
  · rw [if_neg h, if_neg h]
theorem ups_twice (l : Bs) : ups (ups l) = ups l := by
  unfold ups
  rw [List.map_map]
  apply List.map_congr_left
  intro b _
  exact up1_twice b
theorem ups_append (a b : Bs) : ups (a ++ b) = ups a ++ ups b := List.map_append
theorem ups_len (a : Bs) : (ups a).length = a.length := List.length_map _
def Uc (c : Bool) (l : Bs) : Bs := if c then ups l else l
theorem Uc_append (c : Bool) (a b : Bs) : Uc c (a ++ b) = Uc c a ++ Uc c b := by
  unfold Uc; split
  · exact ups_append a b
  · rfl
theorem Uc_len (c : Bool) (a : Bs) : (Uc c a).length = a.length := by
  unfold Uc; split
  · exact ups_len a
  · rfl
def texts (s : Sk) : Bs := (s.bufs.map Bf.text).flatten
/-- All that was written is all; c: is there a buffer that makes capitals? -/
structure Fin12 (c : Bool) (s : Sk) (all : Bs) : Prop where
  names : ∀ b ∈ s.bufs, b.name = [117, 112]
  plain : c = false → s.bufs = []
  fin : s.bottom ++ Uc c (texts s) = Uc c all
theorem fin12_total {c : Bool} {s : Sk} {all : Bs} (f : Fin12 c s all) : s.total = all.length := by
  have h := congrArg List.length f.fin
  rw [List.length_append, Uc_len, Uc_len] at h
  rw [← h]
  unfold Sk.total bytesOf texts
  rw [List.length_flatten, List.map_map]
  rfl
theorem fin12_write {c : Bool} {s : Sk} {all : Bs} (f : Fin12 c s all) (hd : s.bufs = [] → c = false) (x : Bs) (hx : all.length + x.length ≤ 65536) :
    write s x = (0, come s s.bufs.length x) ∧ Fin12 c (come s s.bufs.length x) (all ++ x) ∧ (come s s.bufs.length x).bufs.length = s.bufs.length := by
  have ht := fin12_total f
  refine ⟨by unfold write; rw [if_neg (by omega)], ?_⟩
  cases hl : s.bufs.length with
  | zero =>
    have h0 := List.eq_nil_of_length_eq_zero hl
    have hc := hd h0
    subst hc
    refine ⟨⟨f.names, fun _ => h0, ?_⟩, hl⟩
    have := f.fin
    unfold texts Uc at this ⊢
    show (s.bottom ++ x) ++ _ = _
    simp [h0] at this ⊢
    show s.bottom ++ (x ++ (List.map Bf.text s.bufs).flatten) = all ++ x
    rw [h0]
    simp [this]
  | succ M =>
    obtain ⟨l, g, e, rfl⟩ := snoc_of hl
    have hb : (come s (l.length + 1) x).bufs = l ++ [⟨g.name, g.text ++ x⟩] := by
      unfold come
      show s.bufs.modify l.length _ = _
      rw [e, modify_last]
    refine ⟨⟨?_, fun hc => ?_, ?_⟩, by rw [hb]; simp⟩
    · intro b hbm
      rw [hb] at hbm
      rcases List.mem_append.1 hbm with h | h
      · exact f.names b (by rw [e]; simp [h])
      · simp at h; subst h; exact f.names g (by rw [e]; simp)
    · have := f.plain hc; rw [e] at this; simp at this
    · have h := f.fin
      unfold texts at h ⊢
      rw [hb, flatten_snoc]
      rw [e, flatten_snoc] at h
      show s.bottom ++ _ = _
      rw [Uc_append c all x, ← h]
      simp only [Uc_append, List.append_assoc]
theorem mk_up (l : Bs) : (mk true [117, 112] l).getD [] = ups l := by
  unfold mk fl
  rw [if_neg (by decide), if_pos rfl, if_neg (by decide), if_pos rfl]; rfl
theorem fin12_flush {c : Bool} {s : Sk} {all : Bs} (f : Fin12 c s all) (hx : all.length ≤ 65536) :
    Fin12 c (flush true s).2 all ∧ (flush true s).2.bufs.length = s.bufs.length ∧ (s.bufs.length ≠ 0 → (flush true s).1 = 0) := by
  have ht := fin12_total f
  unfold flush
  cases hl : s.bufs.length with
  | zero =>
    have : s.bufs[0 - 1]? = none := by rw [List.getElem?_eq_none]; omega
    rw [this]
    exact ⟨f, hl, fun h => absurd rfl h⟩
  | succ M =>
    obtain ⟨l, g, e, rfl⟩ := snoc_of hl
    have e1 : s.bufs[l.length + 1 - 1]? = some g := by rw [e]; simp
    rw [e1]
    have hn : g.name = [117, 112] := f.names g (by rw [e]; simp)
    have hmk : (mk true g.name g.text).getD [] = ups g.text := by rw [hn]; exact mk_up _
    have hc : c = true := by
      cases hcc : c with
      | true => rfl
      | false => have := f.plain hcc; rw [e] at this; simp at this
    subst hc
    have key : ∀ (p : Int × Sk), p = (if g.text = [] then ((0 : Int), s) else if 65536 < s.total - g.text.length + ((mk true g.name g.text).getD []).length then (8, s) else (0, come (clean s) l.length ((mk true g.name g.text).getD []))) → Fin12 true p.2 all ∧ p.2.bufs.length = l.length + 1 ∧ (l.length + 1 ≠ 0 → p.1 = 0) := by
      rw [hmk]
      intro p hp
      by_cases ht0 : g.text = []
      · rw [if_pos ht0] at hp; subst hp; exact ⟨f, hl, fun _ => rfl⟩
      · rw [if_neg ht0] at hp
        have hle : g.text.length ≤ s.total := by
          unfold Sk.total
          rw [e, bytesOf_append]
          simp [bytesOf]; omega
        have hul := ups_len g.text
        rw [if_neg (by omega)] at hp
        subst hp
        have hcb : (clean s).bufs = l ++ [⟨g.name, []⟩] := by
          unfold clean
          show s.bufs.modify (s.bufs.length - 1) _ = _
          rw [hl, e]
          exact modify_last l g _
        have hfin := f.fin
        unfold texts at hfin
        rw [e, flatten_snoc] at hfin
        show Fin12 true (come (clean s) l.length (ups g.text)) all ∧ (come (clean s) l.length (ups g.text)).bufs.length = l.length + 1 ∧ _
        rcases List.eq_nil_or_concat l with h | ⟨l', k, h⟩
        · subst h
          refine ⟨⟨?_, (fun h => by cases h), ?_⟩, by show (clean s).bufs.length = _; rw [hcb]; rfl, fun _ => rfl⟩
          · intro b hbm
            have hbm' : b ∈ (clean s).bufs := hbm
            rw [hcb] at hbm'
            simp at hbm'; subst hbm'; exact hn
          · unfold texts
            show (s.bottom ++ ups g.text) ++ Uc true ((clean s).bufs.map Bf.text).flatten = _
            rw [hcb, ← hfin]
            simp [Uc, ups]
        · rw [List.concat_eq_append] at h
          have hll : l.length = l'.length + 1 := by rw [h]; simp
          have hcm : (come (clean s) l.length (ups g.text)).bufs = l' ++ [⟨k.name, k.text ++ ups g.text⟩] ++ [⟨g.name, []⟩] := by
            rw [hll]
            show ((clean s).bufs.modify l'.length _) = _
            rw [hcb, h, modify_set (f := k) (by simp)]
            simp
          refine ⟨⟨?_, (fun h => by cases h), ?_⟩, by rw [hcm, hll]; simp, fun _ => rfl⟩
          · intro b hbm
            rw [hcm] at hbm
            rcases List.mem_append.1 hbm with hb | hb
            · rcases List.mem_append.1 hb with hb | hb
              · exact f.names b (by rw [e, h]; simp [hb])
              · simp at hb; subst hb; exact f.names k (by rw [e, h]; simp)
            · simp at hb; subst hb; exact hn
          · unfold texts
            rw [hcm]
            have hbot : (come (clean s) l.length (ups g.text)).bottom = s.bottom := by rw [hll]; rfl
            rw [hbot, ← hfin, h]
            simp only [flatten_snoc, Uc_append, List.append_assoc]
            simp only [Uc, if_true]
            simp [ups, up1_twice]
    exact key _ rfl
theorem fin12_popB {c : Bool} {s : Sk} {all : Bs} (F : Fin12 c s all) {M : Nat} {f : Bf} (hM : s.bufs.length = M + 1) (hf : s.bufs[M]? = some f) (ht : f.text = []) : Fin12 c (popB s) all := by
  obtain ⟨l, g, e, rfl⟩ := snoc_of hM
  have : g = f := by rw [e] at hf; simpa using hf
  subst this
  have hb : (popB s).bufs = l := by
    unfold popB
    show s.bufs.take (s.bufs.length - 1) = _
    rw [hM, e]; simp
  refine ⟨fun b hbm => F.names b (by rw [hb] at hbm; rw [e]; simp [hbm]), fun hc => ?_, ?_⟩
  · have := F.plain hc; rw [e] at this; simp at this
  · have h := F.fin
    unfold texts at h ⊢
    rw [hb]
    rw [e, flatten_snoc, ht, List.append_nil] at h
    exact h
theorem fin12_pop {c : Bool} {s : Sk} {all : Bs} (f : Fin12 c s all) (hx : all.length ≤ 65536) : Fin12 c (pop true s).2 all ∧ (s.bufs.length ≠ 0 → (pop true s).1 = 0) := by
  obtain ⟨h1, h2, h3⟩ := fin12_flush f hx
  unfold pop
  by_cases h0 : (flush true s).1 = 0
  · rw [if_pos h0]
    obtain ⟨M, g, hM, hf, ht⟩ := flush_zero h0
    exact ⟨fin12_popB h1 hM hf ht, fun _ => rfl⟩
  · rw [if_neg h0]
    exact ⟨h1, h3⟩
theorem fin12_endS : ∀ (n : Nat) {c : Bool} {s : Sk} {all : Bs}, s.bufs.length = n → Fin12 c s all → all.length ≤ 65536 → (endS true s).1 = 0 ∧ Fin12 c (endS true s).2 all ∧ (endS true s).2.bufs = []
  | 0, c, s, all, h, f, _ => by rw [endS_zero h]; exact ⟨rfl, f, List.eq_nil_of_length_eq_zero h⟩
  | n + 1, c, s, all, h, f, hx => by
    obtain ⟨h1, h2⟩ := fin12_pop f hx
    have hp := h2 (by omega)
    rw [endS_go (by omega) hp]
    have hl := pop_len hp
    exact fin12_endS n (by omega) h1 hx
theorem fin12_bottom {c : Bool} {s : Sk} {all : Bs} (f : Fin12 c s all) (h : s.bufs = []) : s.bottom = Uc c all := by
  have := f.fin
  unfold texts Uc at this
  rw [h] at this
  simp [ups] at this
  unfold Uc
  exact this
/-- So many buffers, nothing in them. -/
def skN (n : Nat) : Sk := ⟨List.replicate n ⟨[117, 112], []⟩, [], 0, -1⟩
theorem push_skN (n : Nat) (h : n < 5) : push true (skN n) [117, 112] = (0, skN (n + 1)) := by
  unfold push
  rw [if_pos (by rfl)]
  have : (skN n).bufs.length = n := by simp [skN]
  rw [if_neg (by omega)]
  unfold skN
  simp [List.replicate_succ']
theorem skN_fin (n : Nat) : Fin12 (decide (n ≠ 0)) (skN n) [] := by
  refine ⟨fun b hb => ?_, fun h => ?_, ?_⟩
  · simp [skN] at hb; rw [hb.2]
  · have : n = 0 := by simpa using h
    subst this; rfl
  · unfold texts skN
    have : ((List.replicate n (⟨[117, 112], []⟩ : Bf)).map Bf.text).flatten = [] := by simp
    rw [this]
    simp
end Go.Proofs.Ytoomffplaopijaa
