/-
  The plain law of classes' names, and the walks of Name, both sides.
  Chapter 17: classes as plain data, and what linking makes of them. Of no program.
-/
import Derived.Test.YtobjmajkcfhpoaaDoorWp1
import Derived.Shelf.Strings.Split
namespace Go.Proofs.YtobjmajkcfhpoaaDoor
open Go.RowKit
theorem toList_at {s : ByteArray} {j : Nat} (h : j < s.size) : s.toList[j]'(by rw [size_toList]; exact h) = s[j] := by
 simp [ByteArray.toList_eq]; rfl
def partsP : Bs → List Bs
 | [] => [[]]
 | c :: r => if c = 92 then [] :: partsP r else match partsP r with
  | p :: ps => (c :: p) :: ps
  | [] => [[c]]
theorem partsP_ne (l : Bs) : partsP l ≠ [] := by
 cases l with
 | nil => simp [partsP]
 | cons c r =>
  unfold partsP; split
  ·simp
  ·split <;> simp
theorem partsP_hit {c : UInt8} (h : c = 92) (r : Bs) : partsP (c :: r) = [] :: partsP r := by rw [partsP, if_pos h]
theorem partsP_miss {c : UInt8} (h : c ≠ 92) {r p : Bs} {ps : List Bs} (e : partsP r = p :: ps) : partsP (c :: r) = (c :: p) :: ps := by rw [partsP, if_neg h, e]
theorem splitK_parts : ∀ (l : Bs), Lib.splitK [92] 0 (l.count 92) l = partsP l
 | [] => rfl
 | c :: r => by
  have ih := splitK_parts r
  by_cases h : c = 92
  ·subst h
   rw [List.count_cons_self, partsP_hit rfl, ← ih]
   have hi : Lib.index ((92 : UInt8) :: r) [92] = 0 := by rw [Lib.index_one]; rfl
   rw [Lib.splitK, hi]
   rfl
  ·rw [List.count_cons_of_ne (by simpa using h)]
   have hi : Lib.index (c :: r) [92] = if Lib.index r [92] == -1 then -1 else Lib.index r [92] + 1 := by
    rw [Lib.index_one, Lib.index_one, Lib.indexByte, if_neg (by simpa using h)]
   cases hk : r.count 92 with
   | zero =>
    rw [hk] at ih; have e : partsP r = [r] := ih.symm; rw [partsP_miss h e]; rfl
   | succ k =>
    rw [hk] at ih; rw [Lib.splitK] at ih ⊢; by_cases hm : Lib.index r [92] = -1
    ·exfalso; rw [Lib.index_one] at hm; have : ∀ (l : Bs), Lib.indexByte l 92 = -1 → l.count 92 = 0 := by
      intro l; induction l with
      | nil => intro _; rfl
      | cons b l ihl =>
       intro he; rw [Lib.indexByte] at he; by_cases hb : b = 92
       ·rw [if_pos (by simpa using hb)] at he; cases he
       ·rw [if_neg (by simpa using hb)] at he; rw [List.count_cons_of_ne (by simpa using hb)]; apply ihl; have := Lib.indexByte_ge l 92; split at he
        ·rename_i hq; simpa using hq
        ·omega
     rw [this r hm] at hk; cases hk
    ·have hge := Lib.index_ge r [92]; obtain ⟨i, hi'⟩ : ∃ i : Nat, Lib.index r [92] = i := ⟨(Lib.index r [92]).toNat, by omega⟩; rw [hi'] at hi ih; rw [if_neg (by simp)] at hi ih; rw [hi, if_neg (by rw [beq_iff_eq]; omega)]; have e1 : ((i : Int) + 1).toNat = i + 1 := by omega
     have e2 : (i : Int).toNat = i := by omega
     rw [e2] at ih; rw [e1, partsP_miss h ih.symm]; simp only [Nat.add_zero, List.length_singleton, List.take_succ_cons]; rw [List.drop_succ_cons]
theorem splitB_parts (s : ByteArray) : Lib.splitB (str [92]) 0 (Lib.countB s (str [92])) s = (partsP s.toList).map str := by
 have h := Lib.splitB_data (str [92]) 0 (Lib.countB s (str [92])) s; have hc : Lib.countB s (str [92]) = s.toList.count 92 := by
  show Lib.count _ [92] = _
  rw [Lib.count_one, bl_eq]
 rw [hc] at h ⊢; have h2 : (Lib.splitB (str [92]) 0 (s.toList.count 92) s).map (·.data.toList) = partsP s.toList := by
  rw [h, ← splitK_parts, bl_eq]; rfl
 rw [← h2, List.map_map]; conv => lhs; rw [← List.map_id (Lib.splitB _ _ _ _)]
 exact List.map_congr_left fun x _ => (str_data x).symm
theorem countB_parts (s : ByteArray) : Lib.countB s (str [92]) + 1 = (partsP s.toList).length := by
 have := Lib.splitB_all (str [92]) (by decide) 0 _ s rfl; rw [splitB_parts, List.length_map] at this; exact this.symm
def letterC (c : UInt8) : Bool := decide (c.toNat = 95) || (decide (97 ≤ c.toNat) && decide (c.toNat ≤ 122)) || (decide (65 ≤ c.toNat) && decide (c.toNat ≤ 90))
def digitC (c : UInt8) : Bool := decide (48 ≤ c.toNat) && decide (c.toNat ≤ 57)
def partOk : Bs → Bool
 | [] => false
 | c :: r => letterC c && r.all fun d => letterC d || digitC d
def nameP (s : Bs) : Bool := decide (s.length ≤ 64) && (partsP s).all partOk
def rscan : Bool → Bs → Option Bool
 | b, [] => some b
 | b, c :: r => if b && !letterC c then none else if c = 92 then rscan true r else if !letterC c && !digitC c then none else rscan false r
def okC (c : UInt8) : Bool := letterC c || digitC c
theorem partOk_cons (c : UInt8) (r : Bs) : partOk (c :: r) = (letterC c && r.all okC) := rfl
theorem rscan_acc : ∀ (l : Bs) (b : Bool) (p : Bs) (ps : List Bs), partsP l = p :: ps → (decide (rscan b l = some false)) = ((if b then partOk p else p.all okC) && ps.all partOk)
 | [], b, p, ps, h => by
  obtain ⟨rfl, rfl⟩ : p = [] ∧ ps = [] := by simpa [partsP, eq_comm] using h
  cases b <;> rfl
 | c :: r, b, p, ps, h => by
  obtain ⟨p', ps', h'⟩ : ∃ p' ps', partsP r = p' :: ps' := List.exists_cons_of_ne_nil (partsP_ne r)
  by_cases hc : c = 92
  ·subst hc
   rw [partsP_hit rfl] at h
   obtain ⟨rfl, rfl⟩ : p = [] ∧ ps = partsP r := by simpa [eq_comm] using h
   have ih := rscan_acc r true p' ps' h'
   cases b with
   | true => rfl
   | false =>
    rw [rscan]
    simp only [Bool.false_and, Bool.false_eq_true, if_false, if_true, ih, h', List.all_nil, List.all_cons, Bool.true_and]
  ·rw [partsP_miss hc h'] at h
   obtain ⟨h1, h2⟩ : c :: p' = p ∧ ps' = ps := by simpa using h
   subst h1 h2
   have ih := rscan_acc r false p' ps' h'
   simp only [Bool.false_eq_true, if_false] at ih
   rw [rscan]
   cases b with
   | true =>
    rw [partOk_cons]
    cases hl : letterC c with
    | false => rfl
    | true =>
     simp only [Bool.not_true, Bool.and_false, Bool.false_eq_true, if_false, if_neg hc, Bool.false_and, if_true, Bool.true_and]
     exact ih
   | false =>
    rw [List.all_cons]
    cases hl : letterC c with
    | false =>
     cases hd : digitC c with
     | false => simp [okC, hl, hd, hc]
     | true =>
      simp only [Bool.not_false, Bool.false_and, Bool.false_eq_true, if_false, if_neg hc, Bool.not_true, Bool.and_false, okC, hl, hd, Bool.or_true, Bool.true_and]
      exact ih
    | true =>
     simp only [Bool.not_true, Bool.false_and, Bool.false_eq_true, if_false, if_neg hc, okC, hl, Bool.true_or, Bool.true_and]
     exact ih
theorem nameP_scan (l : Bs) : nameP l = (decide (l.length ≤ 64) && decide (rscan true l = some false)) := by
 obtain ⟨p, ps, h⟩ : ∃ p ps, partsP l = p :: ps := List.exists_cons_of_ne_nil (partsP_ne l); rw [rscan_acc l true p ps h, nameP, h]; rfl
theorem next_lit (w : World) (k : Nat) (s : ByteArray) (pos : Nat) (x y : Int) (hk : w.heap[k]? = some (.stringIter s pos)) (h : pos < s.size) (ha : (s[pos]'h).toNat < 128) (hx : ((s[pos]'h).toNat : Int) = x) (hy : (pos : Int) = y) (ty : TypeId) :
  (Instr.next (.pointer (some ⟨k, 0, none⟩)) true ty).run Tryd.prog w = .ok (.tuple #[.bool true, .int .i64 y, .int .i32 x]) (w.iterAt k s (pos + 1)) := by
 subst hx hy; exact Lib.run_next_ascii_at w k s pos ty hk h ha
theorem next_high (w : World) (k : Nat) (s : ByteArray) (pos : Nat) (x y : Int) (hk : w.heap[k]? = some (.stringIter s pos)) (h : pos < s.size) (hx : ((Utf8.decode s pos).1 : Int) = x) (hy : (pos : Int) = y) (ty : TypeId) :
  (Instr.next (.pointer (some ⟨k, 0, none⟩)) true ty).run Tryd.prog w = .ok (.tuple #[.bool true, .int .i64 y, .int .i32 x]) (w.iterAt k s (pos + (Utf8.decode s pos).2)) := by
 subst hx hy; exact Lib.run_next_any_at w k s pos ty hk h
def NC (x : Int) (l d : Bool) (b1 b2 b3 b4 b5 b6 b7 : Bool) : Prop :=
 (x == 95) = b1 ∧ decide (97 ≤ x) = b2 ∧ decide (x ≤ 122) = b3 ∧ decide (65 ≤ x) = b4 ∧ decide (x ≤ 90) = b5 ∧ decide (x < 48) = b6 ∧ decide (57 < x) = b7 ∧
 l = (b1 || (b2 && b3) || (b4 && b5)) ∧ d = (!b6 && !b7)
theorem nc_cases (x : Int) (l d : Bool) (hl : l = (decide (x = 95) || (decide (97 ≤ x) && decide (x ≤ 122)) || (decide (65 ≤ x) && decide (x ≤ 90)))) (hd : d = (decide (48 ≤ x) && decide (x ≤ 57))) :
  ∃ b1 b2 b3 b4 b5 b6 b7, NC x l d b1 b2 b3 b4 b5 b6 b7 ∧ (b1, b2, b3, b4, b5, b6, b7) ∈ [(false, false, true, false, true, true, false), (false, false, true, false, true, false, false), (false, false, true, false, true, false, true), (false, false, true, true, true, false, true), (false, false, true, true, false, false, true), (true, false, true, true, false, false, true), (false, true, true, true, false, false, true), (false, true, false, true, false, false, true)] := by
 refine ⟨_, _, _, _, _, _, _, ⟨rfl, rfl, rfl, rfl, rfl, rfl, rfl, ?_, ?_⟩, ?_⟩
 ·have e : (x == 95) = decide (x = 95) := by by_cases h : x = 95 <;> simp [h]
  rw [hl, e]
 ·rw [hd]; by_cases h1 : x < 48 <;> by_cases h2 : 57 < x <;> simp [h1, h2] <;> omega
 ·by_cases h1 : x < 48
  ·have e : (x == 95) = false ∧ decide (97 ≤ x) = false ∧ decide (x ≤ 122) = true ∧ decide (65 ≤ x) = false ∧ decide (x ≤ 90) = true ∧ decide (x < 48) = true ∧ decide (57 < x) = false := by simp; omega
   obtain ⟨e1, e2, e3, e4, e5, e6, e7⟩ := e; rw [e1, e2, e3, e4, e5, e6, e7]; simp
  by_cases h2 : x ≤ 57
  ·have e : (x == 95) = false ∧ decide (97 ≤ x) = false ∧ decide (x ≤ 122) = true ∧ decide (65 ≤ x) = false ∧ decide (x ≤ 90) = true ∧ decide (x < 48) = false ∧ decide (57 < x) = false := by simp; omega
   obtain ⟨e1, e2, e3, e4, e5, e6, e7⟩ := e; rw [e1, e2, e3, e4, e5, e6, e7]; simp
  by_cases h3 : x < 65
  ·have e : (x == 95) = false ∧ decide (97 ≤ x) = false ∧ decide (x ≤ 122) = true ∧ decide (65 ≤ x) = false ∧ decide (x ≤ 90) = true ∧ decide (x < 48) = false ∧ decide (57 < x) = true := by simp; omega
   obtain ⟨e1, e2, e3, e4, e5, e6, e7⟩ := e; rw [e1, e2, e3, e4, e5, e6, e7]; simp
  by_cases h4 : x ≤ 90
  ·have e : (x == 95) = false ∧ decide (97 ≤ x) = false ∧ decide (x ≤ 122) = true ∧ decide (65 ≤ x) = true ∧ decide (x ≤ 90) = true ∧ decide (x < 48) = false ∧ decide (57 < x) = true := by simp; omega
   obtain ⟨e1, e2, e3, e4, e5, e6, e7⟩ := e; rw [e1, e2, e3, e4, e5, e6, e7]; simp
  by_cases h5 : x = 95
  ·subst h5; simp
  by_cases h6 : x < 97
  ·have e : (x == 95) = false ∧ decide (97 ≤ x) = false ∧ decide (x ≤ 122) = true ∧ decide (65 ≤ x) = true ∧ decide (x ≤ 90) = false ∧ decide (x < 48) = false ∧ decide (57 < x) = true := by simp; omega
   obtain ⟨e1, e2, e3, e4, e5, e6, e7⟩ := e; rw [e1, e2, e3, e4, e5, e6, e7]; simp
  by_cases h7 : x ≤ 122
  ·have e : (x == 95) = false ∧ decide (97 ≤ x) = true ∧ decide (x ≤ 122) = true ∧ decide (65 ≤ x) = true ∧ decide (x ≤ 90) = false ∧ decide (x < 48) = false ∧ decide (57 < x) = true := by simp; omega
   obtain ⟨e1, e2, e3, e4, e5, e6, e7⟩ := e; rw [e1, e2, e3, e4, e5, e6, e7]; simp
  ·have e : (x == 95) = false ∧ decide (97 ≤ x) = true ∧ decide (x ≤ 122) = false ∧ decide (65 ≤ x) = true ∧ decide (x ≤ 90) = false ∧ decide (x < 48) = false ∧ decide (57 < x) = true := by simp; omega
   obtain ⟨e1, e2, e3, e4, e5, e6, e7⟩ := e; rw [e1, e2, e3, e4, e5, e6, e7]; simp
theorem letter_int (c : UInt8) {x : Int} (hx : (c.toNat : Int) = x) : letterC c = (decide (x = 95) || (decide (97 ≤ x) && decide (x ≤ 122)) || (decide (65 ≤ x) && decide (x ≤ 90))) := by
 subst hx; unfold letterC; congr 1
 ·congr 1
  ·by_cases h : c.toNat = 95 <;> simp [h]; omega
  ·congr 1 <;> (apply decide_eq_decide.2; omega)
 ·congr 1 <;> (apply decide_eq_decide.2; omega)
theorem digit_int (c : UInt8) {x : Int} (hx : (c.toNat : Int) = x) : digitC c = (decide (48 ≤ x) && decide (x ≤ 57)) := by
 subst hx; unfold digitC; congr 1 <;> (apply decide_eq_decide.2; omega)
set_option maxRecDepth 100000 in
theorem rletter_any (c : UInt8) (w : World) : Calls Tryd.prog 85 #[.int .u8 c.toNat] w fun e w' => e = .returned (.bool (letterC c)) ∧ w = w' := by
 obtain ⟨x, hx⟩ : ∃ x : Int, (c.toNat : Int) = x := ⟨_, rfl⟩; obtain ⟨b1, b2, b3, b4, b5, b6, b7, ⟨h1, h2, h3, h4, h5, h6, h7, hl, -⟩, hm⟩ := nc_cases x (letterC c) (digitC c) (letter_int c hx) (digit_int c hx); rw [hl, hx]; clear hl hx; simp only [List.mem_cons, Prod.mk.injEq, List.not_mem_nil, or_false] at hm; rcases hm with ⟨rfl, rfl, rfl, rfl, rfl, rfl, rfl⟩ | ⟨rfl, rfl, rfl, rfl, rfl, rfl, rfl⟩ | ⟨rfl, rfl, rfl, rfl, rfl, rfl, rfl⟩ | ⟨rfl, rfl, rfl, rfl, rfl, rfl, rfl⟩ | ⟨rfl, rfl, rfl, rfl, rfl, rfl, rfl⟩ | ⟨rfl, rfl, rfl, rfl, rfl, rfl, rfl⟩ | ⟨rfl, rfl, rfl, rfl, rfl, rfl, rfl⟩ | ⟨rfl, rfl, rfl, rfl, rfl, rfl, rfl⟩
 all_goals
  go_enter Tryd.func85, Tryd.ntmps85; go_wp2_with fail; go_ret; exact ⟨rfl, rfl⟩
set_option maxRecDepth 100000 in
theorem rdigit_any (c : UInt8) (w : World) : Calls Tryd.prog 86 #[.int .u8 c.toNat] w fun e w' => e = .returned (.bool (digitC c)) ∧ w = w' := by
 obtain ⟨x, hx⟩ : ∃ x : Int, (c.toNat : Int) = x := ⟨_, rfl⟩; have h1 := digit_int c hx; obtain ⟨e1, he1⟩ : ∃ e, decide (48 ≤ x) = e := ⟨_, rfl⟩; obtain ⟨e2, he2⟩ : ∃ e, decide (x ≤ 57) = e := ⟨_, rfl⟩; rw [h1, he1, he2, hx]; clear h1 hx; cases e1 <;> cases e2 <;> (go_enter Tryd.func86, Tryd.ntmps86; go_wp2_with fail; go_ret; exact ⟨rfl, rfl⟩)
set_option maxHeartbeats 1600000 in
set_option maxRecDepth 100000 in
theorem rname_any (s : ByteArray) (hs : s.size ≤ 140737488351232) (w : World) : Calls Tryd.prog 71 #[.string s] w fun e w' => e = .returned (.bool (nameP s.toList)) ∧ w = w' := by
 obtain ⟨r, hr⟩ : ∃ r, r = nameP s.toList := ⟨_, rfl⟩; rw [← hr]; have HR : Hid (r = (decide (s.size ≤ 64) && decide (rscan true (s.toList.drop 0) = some false))) := Hd (by rw [hr, nameP_scan, size_toList]; rfl); clear hr; go_enter Tryd.func71, Tryd.ntmps71; go_wp2_with fail; go_loopw [3, 4] (fun bv iv wr => ∃ (p : Nat) (b : Bool), p ≤ s.size ∧ iv = .int .i64 p ∧ bv = .bool b ∧ Hid (r = (decide (s.size ≤ 64) && decide (rscan b (s.toList.drop p) = some false))) ∧ w = wr) (fun _ iv _ => s.size - (intOf iv).toNat)
 case atStart => exact ⟨0, true, Nat.zero_le _, rfl, rfl, HR, rfl⟩
 case round =>
  obtain ⟨p, b, hp, rfl, rfl, HX, rfl⟩ := hrel; clear HR; by_cases hlt : p < s.size
  ·have hi : (p : Int) < (s.size : Int) := by omega
   obtain ⟨hw', hw⟩ := wr_sm (x := (p : Int) + 1) (by omega) (by omega); have hdr : s.toList.drop p = s[p] :: s.toList.drop (p + 1) := by
    rw [List.drop_eq_getElem_cons (by rw [size_toList]; exact hlt), toList_at hlt]
   have hX2 := HX.out; rw [hdr, rscan] at hX2; have HL := rletter_any s[p] w; have HD := rdigit_any s[p] w; obtain ⟨e92, h92⟩ : ∃ e, (((s[p].toNat : Nat) : Int) == 92) = e := ⟨_, rfl⟩; have hc92 : (s[p] = 92) ↔ e92 = true := by
    rw [← h92]; constructor
    ·intro h; rw [h]; rfl
    ·intro h; have h2 : (s[p].toNat : Int) = 92 := by simpa using h
     exact UInt8.toNat_inj.1 (by simpa using (by omega : s[p].toNat = 92))
   simp only [hc92] at hX2; generalize letterC s[p] = cl at HL hX2; generalize digitC s[p] = cd at HD hX2; have HX2 := Hd hX2; have HLT := Hd hlt; clear hX2 hdr hc92 HX; cases b
   ·cases e92
    ·go_wp2_with fail; refine HL.mono ?_; rintro e w1 ⟨rfl, rfl⟩; cases cl
     ·go_wp2_with fail; refine HD.mono ?_; rintro e w1 ⟨rfl, rfl⟩; cases cd
      ·have hrf : r = false := by rw [HX2.out]; simp
       subst hrf; go_wp2_with fail; go_ret; exact ⟨rfl, rfl⟩
      ·go_wp2_with fail; go_roundw
       case rel => exact ⟨p + 1, false, HLT.out, by go_num, rfl, Hd (by rw [HX2.out]; rfl), trivial⟩
       case measure => have := HLT.out; simp [intOf]; omega
     ·go_wp2_with fail; go_roundw
      case rel => exact ⟨p + 1, false, HLT.out, by go_num, rfl, Hd (by rw [HX2.out]; rfl), trivial⟩
      case measure => have := HLT.out; simp [intOf]; omega
    ·go_wp2_with fail; go_roundw
     case rel => exact ⟨p + 1, true, HLT.out, by go_num, rfl, Hd (by rw [HX2.out]; rfl), trivial⟩
     case measure => have := HLT.out; simp [intOf]; omega
   ·go_wp2_with fail; refine HL.mono ?_; rintro e w1 ⟨rfl, rfl⟩; cases cl
    ·have hrf : r = false := by rw [HX2.out]; simp
     subst hrf; go_wp2_with fail; go_ret; exact ⟨rfl, rfl⟩
    ·cases e92
     ·go_wp2_with fail; refine HL.mono ?_; rintro e w1 ⟨rfl, rfl⟩; go_wp2_with fail; go_roundw
      case rel => exact ⟨p + 1, false, HLT.out, by go_num, rfl, Hd (by rw [HX2.out]; rfl), trivial⟩
      case measure => have := HLT.out; simp [intOf]; omega
     ·go_wp2_with fail; go_roundw
      case rel => exact ⟨p + 1, true, HLT.out, by go_num, rfl, Hd (by rw [HX2.out]; rfl), trivial⟩
      case measure => have := HLT.out; simp [intOf]; omega
  ·obtain rfl : p = s.size := by omega
   have hX2 := HX.out; rw [List.drop_of_length_le (by rw [size_toList]; exact Nat.le_refl _), rscan] at hX2; obtain ⟨e, he⟩ : ∃ e, decide ((s.size : Int) ≤ 64) = e := ⟨_, rfl⟩; have he2 : decide (s.size ≤ 64) = e := by rw [← he]; apply decide_eq_decide.2; omega
   rw [he2] at hX2; have HX2 := Hd hX2; clear hX2 he2 HX; cases b <;> cases e <;> (go_wp2_with fail; go_ret; exact ⟨by rw [HX2.out]; rfl, rfl⟩)
theorem partsP_len : ∀ (l : Bs), ∀ p ∈ partsP l, p.length ≤ l.length
 | [], p, h => by simp [partsP] at h; subst h; simp
 | c :: r, p, h => by
  obtain ⟨p', ps', h'⟩ : ∃ p' ps', partsP r = p' :: ps' := List.exists_cons_of_ne_nil (partsP_ne r)
  have ih := partsP_len r
  by_cases hc : c = 92
  ·rw [partsP_hit hc] at h
   rcases List.mem_cons.1 h with rfl | h
   ·simp
   ·have := ih p h; simp; omega
  ·rw [partsP_miss hc h'] at h
   rcases List.mem_cons.1 h with rfl | h
   ·have := ih p' (by rw [h']; simp); simpa using this
   ·have := ih p (by rw [h']; simp [h]); simp; omega
def behind (p : Nat) (l : Bs) : Bool := if p = 0 then partOk l else (l.drop p).all okC
theorem behind_step {l : Bs} {p : Nat} {c : UInt8} (h : l[p]? = some c) : behind p l = ((letterC c || (decide (p ≠ 0) && digitC c)) && behind (p + 1) l) := by
 obtain ⟨hp, rfl⟩ := List.getElem?_eq_some_iff.1 h; unfold behind; rw [if_neg (Nat.succ_ne_zero p)]; by_cases h0 : p = 0
 ·subst h0; rw [if_pos rfl]; cases l with
  | nil => simp at hp
  | cons c r => simp [partOk]; rfl
 ·rw [if_neg h0, List.drop_eq_getElem_cons hp, List.all_cons]; simp [okC, h0]
theorem high_no {x : Int} (h : 128 ≤ x) : (decide (x = 95) || (decide (97 ≤ x) && decide (x ≤ 122)) || (decide (65 ≤ x) && decide (x ≤ 90))) = false ∧ (decide (48 ≤ x) && decide (x ≤ 57)) = false := by
 constructor
 ·simp; omega
 ·simp; omega
theorem byte_high {c : UInt8} (h : ¬ c.toNat < 128) : letterC c = false ∧ digitC c = false := by
 unfold letterC digitC; constructor
 ·simp; omega
 ·simp; omega
set_option maxHeartbeats 6400000 in
set_option maxRecDepth 100000 in
theorem name_any (s : ByteArray) (w : World) (ht : Tabs w) : Calls Tryd.prog 24 #[.string s] w (BoolPost w (nameP s.toList)) := by
  obtain ⟨r, hr⟩ : ∃ r, r = nameP s.toList := ⟨_, rfl⟩
  rw [← hr]
  by_cases hsz : s.size ≤ 64
  · have HSP : Calls Tryd.prog 63 #[.string s, .string ⟨#[92]⟩] w fun e w' => e = .returned (.slice (some ⟨w.heap.size, 0, none⟩) (partsP s.toList).length (partsP s.toList).length) ∧ w' = w.alloc (.cells (((partsP s.toList).map str).map Value.string).toArray 9) := by
      obtain ⟨m, hm⟩ := ht.len
      have := Tryd.strings_Split s (str [92]) m w (by omega) hm (by decide)
      rw [countB_parts, splitB_parts] at this
      exact this
    have hpl : (partsP s.toList).length ≤ 65 := by
      have := countB_parts s
      have h2 : Lib.countB s (str [92]) = s.toList.count 92 := by
        show Lib.count _ [92] = _
        rw [Lib.count_one, bl_eq]
      have h3 : s.toList.count 92 ≤ s.toList.length := List.count_le_length
      rw [size_toList] at h3
      omega
    have HR : Hid (r = ((partsP s.toList).drop 0).all partOk) := Hd (by rw [hr, nameP, size_toList]; simp [hsz])
    have hz : decide (64 < (s.size : Int)) = false := by simp; omega
    generalize hps : partsP s.toList = ps at HSP HR hpl
    have HZ : Hid (∀ p ∈ ps, p.length ≤ 64) := Hd (fun p hp => by
      have := partsP_len s.toList p (by rw [hps]; exact hp)
      rw [size_toList] at this
      omega)
    clear hr hps hsz ht
    have HB := Hd (below_alloc1 w (.cells ((ps.map str).map Value.string).toArray 9))
    have HC : Hid (∀ k (h : k < ps.length), (w.alloc (.cells ((ps.map str).map Value.string).toArray 9)).cell? ⟨w.heap.size, k, none⟩ = some (.string (str ps[k]))) := Hd (fun k h => by
      rw [cB (heap_alloc_new w _)]
      simp [h])
    go_enter Tryd.func24, Tryd.ntmps24
    go_wp2_with fail
    refine HSP.mono ?_
    rintro e w1 ⟨rfl, rfl⟩
    have hlt1 : Hid (w.heap.size < (w.alloc (.cells ((ps.map str).map Value.string).toArray 9)).heap.size) := Hd (by simp)
    generalize w.alloc (.cells ((ps.map str).map Value.string).toArray 9) = W at HB HC hlt1 ⊢
    clear HSP
    go_wp2_with fail
    go_loopw [4, 5, 6, 7, 14] (fun _ _ _ _ kv wr => ∃ k : Nat, k ≤ ps.length ∧ kv = .int .i64 k ∧ Hid (r = (ps.drop k).all partOk) ∧ Hid (Below W.heap.size W wr)) (fun _ _ _ _ kv _ => ps.length - (intOf kv).toNat)
    case atStart => exact ⟨0, Nat.zero_le _, rfl, HR, Hd (Below.refl _ _)⟩
    case round =>
      obtain ⟨k, hk, rfl, HX, HBW⟩ := hrel
      by_cases hlt : k < ps.length
      · have hi : (k : Int) < (ps.length : Int) := by omega
        obtain ⟨hw', hw⟩ := wr_sm (x := (k : Int) + 1) (by omega) (by omega)
        have c0 : wr.cell? ⟨w.heap.size, k, none⟩ = some (.string (str ps[k])) := (HBW.out.cell (p := ⟨w.heap.size, k, none⟩) hlt1.out).trans (HC.out k hlt)
        have HXk : Hid (r = (behind 0 ps[k] && (ps.drop (k + 1)).all partOk)) := Hd (by rw [HX.out, List.drop_eq_getElem_cons hlt, List.all_cons]; rfl)
        have hz64 := HZ.out ps[k] (List.getElem_mem hlt)
        have HLT := Hd hlt
        generalize hrest : (ps.drop (k + 1)).all partOk = rest at HXk
        have HRS := Hd hrest
        clear hrest
        generalize ps[k] = l at c0 HXk hz64
        obtain ⟨n, hn⟩ : ∃ n, n = str l := ⟨_, rfl⟩
        rw [← hn] at c0
        have hnl : n.toList = l := by rw [hn, str_toList]
        have hns : n.size = l.length := by rw [hn, str_size]
        have HNL := Hd (⟨hnl, hns⟩ : _ ∧ _)
        have hn64 : n.size ≤ 64 := by omega
        clear hn hnl hns hlt hz64 HX
        go_wp2_with fail
        have K0 := Hd (World.iter_heap wr n 0)
        have B0 : Hid (Below W.heap.size W (wr.iter n 0)) := Hd (HBW.out.alloc HBW.out.size _)
        have HSZ : Hid (W.heap.size ≤ wr.heap.size) := Hd HBW.out.size
        clear HBW c0
        generalize wr.iter n 0 = W0 at K0 B0 ⊢
        generalize wr.heap.size = nb at K0 HSZ ⊢
        go_loopw [5, 6, 7] (fun _ _ _ wx => ∃ p : Nat, p ≤ n.size ∧ Hid (wx.heap[nb]? = some (.stringIter n p)) ∧ Hid (Below W.heap.size W wx) ∧ Hid (r = (behind p l && rest))) (fun _ _ _ wx => n.size - wx.iterPos nb)
        case atStart => exact ⟨0, Nat.zero_le _, K0, B0, HXk⟩
        case round =>
          obtain ⟨p, hp, HIT, HBX, HP⟩ := hrel
          clear K0 B0 HXk
          have HMU : Hid (wr.iterPos nb = p) := Hd (by simp [World.iterPos, HIT.out])
          by_cases hlp : p < n.size
          · obtain ⟨x, q, hnext, hL, hD, hq⟩ : ∃ (x : Int) (q : Nat), (∀ ty, (Instr.next (.pointer (some ⟨nb, 0, none⟩)) true ty).run Tryd.prog wr = .ok (.tuple #[.bool true, .int .i64 p, .int .i32 x]) (wr.iterAt nb n q)) ∧ letterC n[p] = (decide (x = 95) || (decide (97 ≤ x) && decide (x ≤ 122)) || (decide (65 ≤ x) && decide (x ≤ 90))) ∧ digitC n[p] = (decide (48 ≤ x) && decide (x ≤ 57)) ∧ ((letterC n[p] = true ∨ digitC n[p] = true) → q = p + 1) := by
              by_cases h128 : n[p].toNat < 128
              · exact ⟨_, _, fun ty => next_lit wr nb n p _ p HIT.out hlp h128 rfl rfl ty, letter_int _ rfl, digit_int _ rfl, fun _ => rfl⟩
              · have hge := (decode_high n p hlp (by omega)).1
                obtain ⟨e1, e2⟩ := byte_high h128
                obtain ⟨e3, e4⟩ := high_no (x := ((Utf8.decode n p).1 : Int)) (by omega)
                exact ⟨_, _, fun ty => next_high wr nb n p _ p HIT.out hlp rfl rfl ty, by rw [e1, e3], by rw [e2, e4], fun h => by rw [e1, e2] at h; simp at h⟩
            have hst : behind p l = ((letterC n[p] || (decide (p ≠ 0) && digitC n[p])) && behind (p + 1) l) := behind_step (by
              have h2 := HNL.out.1
              rw [← h2, List.getElem?_eq_getElem (by rw [size_toList]; exact hlp), toList_at hlp])
            obtain ⟨b1, b2, b3, b4, b5, b6, b7, ⟨h1, h2, h3, h4, h5, h6, h7, hl, hd⟩, hm⟩ := nc_cases x (letterC n[p]) (digitC n[p]) hL hD
            obtain ⟨e0, he0⟩ : ∃ e, ((p : Int) == 0) = e := ⟨_, rfl⟩
            have he0' : decide (p ≠ 0) = !e0 := by rw [← he0]; by_cases h : p = 0 <;> simp [h]
            rw [hl, hd] at hq
            rw [hl, hd, he0'] at hst
            have HPn := Hd (HP.out.trans (by rw [hst]))
            have HK := Hd (Lib.iterAt_heap wr nb n p q HIT.out)
            have HB2 := Hd (Lib.below_iterAt HBX.out HSZ.out n q)
            have HLP := Hd hlp
            have HQ := Hd hq
            generalize wr.iterAt nb n q = W1 at hnext HK HB2
            clear hL hD hq hst he0' hl hd hlp HP
            simp only [List.mem_cons, Prod.mk.injEq, List.not_mem_nil, or_false] at hm
            rcases hm with ⟨rfl, rfl, rfl, rfl, rfl, rfl, rfl⟩ | ⟨rfl, rfl, rfl, rfl, rfl, rfl, rfl⟩ | ⟨rfl, rfl, rfl, rfl, rfl, rfl, rfl⟩ | ⟨rfl, rfl, rfl, rfl, rfl, rfl, rfl⟩ | ⟨rfl, rfl, rfl, rfl, rfl, rfl, rfl⟩ | ⟨rfl, rfl, rfl, rfl, rfl, rfl, rfl⟩ | ⟨rfl, rfl, rfl, rfl, rfl, rfl, rfl⟩ | ⟨rfl, rfl, rfl, rfl, rfl, rfl, rfl⟩
            all_goals
              cases e0
              all_goals
                first
                  | (have hrf : r = false := by (rw [HPn.out]; rfl)
                     subst hrf
                     go_wp2_with fail
                     go_ret
                     exact ⟨rfl, HB.out.trans (HB2.out.mono HB.out.size)⟩)
                  | (have hq : q = p + 1 := HQ.out (by simp)
                     have HP2 : Hid (r = (behind (p + 1) l && rest)) := Hd (by rw [HPn.out]; rfl)
                     subst hq
                     go_wp2_with fail
                     go_roundw
                     case rel => exact ⟨p + 1, HLP.out, HK, HB2, HP2⟩
                     case measure => rw [HMU.out]; have := HLP.out; simp [World.iterPos, HK.out]; omega)
          · obtain rfl : p = n.size := by omega
            have HN : ∀ ty, (Instr.next (.pointer (some ⟨nb, 0, none⟩)) true ty).run Tryd.prog wr = .ok (.tuple #[.bool false]) wr := fun ty => Lib.run_next_end_at wr nb n _ ty HIT.out hlp
            obtain ⟨e0, he0⟩ : ∃ e, n.toList.isEmpty = e := ⟨_, rfl⟩
            have HPn : Hid (r = (!e0 && rest)) := Hd (by
              rw [HP.out, ← he0, HNL.out.1, HNL.out.2]
              congr 1
              unfold behind
              cases l with
              | nil => rfl
              | cons c r => simp)
            clear HP
            cases e0
            · go_wp2_with fail
              go_roundw
              case rel => exact ⟨k + 1, HLT.out, by go_num, Hd (by rw [HPn.out, HRS.out]; rfl), HBX⟩
              case measure => have := HLT.out; simp [intOf]; omega
            · have hrf : r = false := by rw [HPn.out]; rfl
              subst hrf
              go_wp2_with fail
              go_ret
              exact ⟨rfl, HB.out.trans (HBX.out.mono HB.out.size)⟩
      · obtain rfl : k = ps.length := by omega
        have hrt : r = true := by rw [HX.out, List.drop_length]; rfl
        subst hrt
        go_wp2_with fail
        go_ret
        exact ⟨rfl, HB.out.trans (HBW.out.mono HB.out.size)⟩
  · have hrf : r = false := by rw [hr, nameP, size_toList]; simp [hsz]
    subst hrf
    have hz : decide (64 < (s.size : Int)) = true := by simp; omega
    go_enter Tryd.func24, Tryd.ntmps24
    go_wp2_with fail
    go_ret
    exact ⟨rfl, Below.refl _ _⟩
end Go.Proofs.YtobjmajkcfhpoaaDoor

namespace Go.Proofs.YtobjmajkcfhpoaaDoor
open Go.RowKit
structure MtP where
 nm : ByteArray
 st : Bool
 ab : Bool
 fi : Bool
 fr : ByteArray
 cd : Int
structure PrP where
 nm : ByteArray
 st : Bool
 fr : ByteArray
 cd : Int
structure CoP where
 nm : ByteArray
 fr : ByteArray
 cd : Int
structure AdP where
 tr : ByteArray
 nm : ByteArray
 ot : List ByteArray
 sa : ByteArray
structure ClP where
 nm : ByteArray
 kd : Int
 ab : Bool
 fi : Bool
 pa : ByteArray
 fs : List ByteArray
 ts : List ByteArray
 ad : List AdP
 cs : List CoP
 ps : List PrP
 ms : List MtP
structure SV where
 o : Option Addr
 n : Nat
 c : Nat
structure VS6 where
 f : SV
 t : SV
 a : SV
 c : SV
 p : SV
 m : SV
abbrev KC := ClP × VS6
def sR (s : ByteArray) : List Value := [.string s]
def MtP.row (m : MtP) : List Value := [.string m.nm, .bool m.st, .bool m.ab, .bool m.fi, .string m.fr, .int .i64 m.cd]
def PrP.row (p : PrP) : List Value := [.string p.nm, .bool p.st, .string p.fr, .int .i64 p.cd]
def CoP.row (c : CoP) : List Value := [.string c.nm, .string c.fr, .int .i64 c.cd]
def AdP.row (a : AdP × SV) : List Value := [.string a.1.tr, .string a.1.nm, .slice a.2.o a.2.n a.2.c, .string a.1.sa]
def KC.row (x : KC) : List Value := [.string x.1.nm, .int .i64 x.1.kd, .bool x.1.ab, .bool x.1.fi, .string x.1.pa, .slice x.2.f.o x.2.f.n x.2.f.c, .slice x.2.t.o x.2.t.n x.2.t.c, .slice x.2.a.o x.2.a.n x.2.a.c, .slice x.2.c.o x.2.c.n x.2.c.c, .slice x.2.p.o x.2.p.n x.2.p.c, .slice x.2.m.o x.2.m.n x.2.m.c]
def MtP.v (m : MtP) : Value := .agg #[.string m.nm, .bool m.st, .bool m.ab, .bool m.fi, .string m.fr, .int .i64 m.cd]
def PrP.v (p : PrP) : Value := .agg #[.string p.nm, .bool p.st, .string p.fr, .int .i64 p.cd]
def CoP.v (c : CoP) : Value := .agg #[.string c.nm, .string c.fr, .int .i64 c.cd]
def AdP.v (a : AdP × SV) : Value := .agg #[.string a.1.tr, .string a.1.nm, .slice a.2.o a.2.n a.2.c, .string a.1.sa]
def KC.v (x : KC) : Value := .agg #[.string x.1.nm, .int .i64 x.1.kd, .bool x.1.ab, .bool x.1.fi, .string x.1.pa, .slice x.2.f.o x.2.f.n x.2.f.c, .slice x.2.t.o x.2.t.n x.2.t.c, .slice x.2.a.o x.2.a.n x.2.a.c, .slice x.2.c.o x.2.c.n x.2.c.c, .slice x.2.p.o x.2.p.n x.2.p.c, .slice x.2.m.o x.2.m.n x.2.m.c]
def eqB (a b : ByteArray) : Bool := a.toList == b.toList
theorem ba_ext' {a b : ByteArray} (h : a.toList = b.toList) : a = b := by
 rw [ByteArray.toList_eq, ByteArray.toList_eq] at h; cases a; cases b; congr; exact Array.ext' h
theorem eqB_iff {a b : ByteArray} : eqB a b = true ↔ a = b := by
 unfold eqB; rw [beq_iff_eq]; exact ⟨ba_ext', fun h => by rw [h]⟩
theorem eqB_self (a : ByteArray) : eqB a a = true := eqB_iff.2 rfl
theorem eqB_ne {a b : ByteArray} : eqB a b = false ↔ a ≠ b := by rw [← Bool.not_eq_true, Ne, eqB_iff]
theorem eqB_comm (a b : ByteArray) : eqB a b = eqB b a := by
 rw [Bool.eq_iff_iff, eqB_iff, eqB_iff]; exact eq_comm
def emT (t : ByteArray) : Bool := t.toList.isEmpty
def idxP {α : Type} (p : α → Bool) : List α → Option Nat
 | [] => none
 | x :: r => if p x then some 0 else (idxP p r).map (· + 1)
def idxI : Option Nat → Int
 | some i => i
 | none => -1
theorem idxP_some {α : Type} {p : α → Bool} : ∀ {l : List α} {i : Nat}, idxP p l = some i → ∃ h : i < l.length, p l[i] = true ∧ ∀ j (hj : j < l.length), j < i → p l[j] = false
 | [], i, h => by cases h
 | x :: r, i, h => by
  unfold idxP at h
  by_cases hx : p x = true
  ·rw [if_pos hx] at h
   cases h
   exact ⟨by simp, hx, fun j _ hj => absurd hj (Nat.not_lt_zero j)⟩
  ·rw [if_neg hx] at h
   cases hr : idxP p r with
   | none => rw [hr] at h; cases h
   | some k =>
    rw [hr] at h
    cases h
    obtain ⟨h1, h2, h3⟩ := idxP_some hr
    refine ⟨by simpa using h1, by simpa using h2, fun j hj hjk => ?_⟩
    cases j with
    | zero => simpa using hx
    | succ j =>
     have hjk : j + 1 < k + 1 := hjk
     exact h3 j (by simpa using hj) (by omega)
theorem idxP_none {α : Type} {p : α → Bool} : ∀ {l : List α}, idxP p l = none → ∀ x ∈ l, p x = false
 | [], _, x, hx => by cases hx
 | y :: r, h, x, hx => by
  unfold idxP at h
  by_cases hy : p y = true
  ·rw [if_pos hy] at h; cases h
  ·rw [if_neg hy] at h
   cases hr : idxP p r with
   | none =>
    rcases List.mem_cons.1 hx with rfl | hx
    ·simpa using hy
    ·exact idxP_none hr x hx
   | some k => rw [hr] at h; cases h
theorem idxP_at {α : Type} {p : α → Bool} : ∀ {l : List α} {i : Nat} (h : i < l.length), p l[i] = true → (∀ j (hj : j < l.length), j < i → p l[j] = false) → idxP p l = some i
 | x :: r, 0, _, h1, _ => by
  unfold idxP
  rw [if_pos (by simpa using h1)]
 | x :: r, i + 1, h, h1, h2 => by
  have h0 := h2 0 (by simp) (by omega)
  unfold idxP
  rw [if_neg (by simpa using h0), idxP_at (l := r) (i := i) (by simpa using h) h1 (fun j hj hji => h2 (j + 1) (by simpa using hj) (by omega))]
  rfl
theorem idxP_no {α : Type} {p : α → Bool} : ∀ {l : List α}, (∀ j (hj : j < l.length), p l[j] = false) → idxP p l = none
 | [], _ => rfl
 | x :: r, h => by
  have h0 := h 0 (by simp)
  unfold idxP
  rw [if_neg (by simpa using h0), idxP_no (l := r) (fun j hj => h (j + 1) (by simpa using hj))]
  rfl
theorem idxP_isSome {α : Type} {p : α → Bool} : ∀ (l : List α), (idxP p l).isSome = l.any p
 | [] => rfl
 | x :: r => by
  unfold idxP
  rw [List.any_cons, ← idxP_isSome r]
  by_cases h : p x = true
  ·rw [if_pos h, h]; rfl
  ·rw [if_neg h]
   have : p x = false := by simpa using h
   rw [this]
   cases idxP p r <;> rfl
theorem idxI_nonneg (o : Option Nat) : decide (0 ≤ idxI o) = o.isSome := by
 cases o with
 | none => rfl
 | some i => simp [idxI]
def fstP {α : Type} (p : α → Bool) (l : List α) : Option α := (idxP p l).bind fun i => l[i]?
/-! What may be. -/
def hasB (l : List ByteArray) (s : ByteArray) : Bool := l.any fun x => eqB s x
def wordP (s : ByteArray) : Bool := nameP s.toList && !(decide (0 ≤ Lib.indexByte s.data.toList 92))
def onceP (right : ByteArray → Bool) : List ByteArray → List ByteArray → Bool
 | _, [] => true
 | met, s :: r => if (hasB met s || !right s) = true then false else onceP right (s :: met) r
def nmP (s : ByteArray) : Bool := nameP s.toList
def adaptP (a : AdP) : Bool :=
 if (!wordP a.nm || (!emT a.tr && !nmP a.tr)) = true then false
 else if (a.ot.all nmP) = false then false
 else if 0 < a.ot.length then emT a.sa && !emT a.tr else wordP a.sa
def rightP (d : ClP) : Bool :=
 if (((!nmP d.nm || (!emT d.pa && !nmP d.pa)) || !onceP nmP [] d.fs) || !onceP nmP [] d.ts) = true then false
 else if ((!onceP wordP [] (d.cs.map CoP.nm) || !onceP wordP [] (d.ps.map PrP.nm)) || !onceP wordP [] (d.ms.map MtP.nm)) = true then false
 else if ((d.ad.any fun a => !adaptP a) || (d.ms.any fun m => m.ab && m.fi)) = true then false
 else if d.kd = 1 then (!d.ab || !d.fi) && (d.ab || !(d.ms.any fun m => m.ab))
 else if d.kd = 2 then (((((!d.ab && !d.fi) && emT d.pa) && decide (d.ps.length = 0)) && decide (d.ts.length = 0)) && decide (d.ad.length = 0)) && !(d.ms.any fun m => !m.ab)
 else if d.kd = 3 then (((!d.ab && !d.fi) && emT d.pa) && decide (d.fs.length = 0)) && decide (d.cs.length = 0)
 else false
/-! What is asked. -/
def findK (kn : List KC) (name : ByteArray) : Option KC := fstP (fun x => eqB x.1.nm name) kn
def methP (ms : List MtP) (name : ByteArray) : Option MtP := fstP (fun m => eqB m.nm name) ms
def isP (kn : List KC) (of : ByteArray) : Nat → ByteArray → Bool
 | 0, _ => false
 | f + 1, name =>
  if eqB name of = true then true
  else match findK kn name with
   | none => false
   | some c => if hasB c.1.fs of = true then true else if emT c.1.pa = true then false else isP kn of f c.1.pa
/-! Linking. -/
def oneP (kn : List KC) (name : ByteArray) (kind : Int) : Except Int KC :=
 match findK kn name with
 | none => .error 6
 | some c => if c.1.kd = kind then .ok c else .error 20
def ClP.nil : ClP := ⟨⟨#[]⟩, 0, false, false, ⟨#[]⟩, [], [], [], [], [], []⟩
def VS6.nil : VS6 := ⟨⟨none, 0, 0⟩, ⟨none, 0, 0⟩, ⟨none, 0, 0⟩, ⟨none, 0, 0⟩, ⟨none, 0, 0⟩, ⟨none, 0, 0⟩⟩
def KC.nil : KC := (ClP.nil, VS6.nil)
def parentP (kn : List KC) (pa : ByteArray) : Except Int KC :=
 if emT pa = true then .ok KC.nil
 else match oneP kn pa 1 with
  | .error e => .error e
  | .ok p => if p.1.fi = true then .error 19 else .ok p
def putF : List ByteArray → List ByteArray × List ByteArray → List ByteArray × List ByteArray
 | [], s => s
 | x :: r, s => putF r (if hasB s.1 x = true then s else (s.1 ++ [x], s.2 ++ [x]))
def facesP (kn : List KC) : List ByteArray → List ByteArray × List ByteArray → Except Int (List ByteArray × List ByteArray)
 | [], s => .ok s
 | n :: r, s => match oneP kn n 2 with
  | .error e => .error e
  | .ok f => facesP kn r (putF (f.1.fs ++ [n]) s)
def traitsP (kn : List KC) : List ByteArray → List KC → Except Int (List KC)
 | [], s => .ok s
 | n :: r, s => match oneP kn n 3 with
  | .error e => .error e
  | .ok t => traitsP kn r (s ++ [t])
def meansP (a : AdP) (t : KC) : Bool := (methP t.1.ms a.nm).isSome && (emT a.tr || eqB a.tr t.1.nm)
def meantP (rs : List KC) (a : AdP) : List KC := rs.filter (meansP a)
def adaptsP (ts : List ByteArray) (rs : List KC) : List AdP → Int
 | [] => 0
 | a :: r => if (meantP rs a).length = 0 then 6 else if (a.ot.all fun o => hasB ts o) = true then adaptsP ts rs r else 6
structure AboveP where
 p : KC
 fs : List ByteArray
 hs : List ByteArray
 rs : List KC
def aboveP (d : ClP) (kn : List KC) : Except Int AboveP :=
 match parentP kn d.pa with
 | .error e => .error e
 | .ok p => match facesP kn d.fs (p.1.fs, []) with
  | .error e => .error e
  | .ok s => match traitsP kn d.ts [] with
   | .error e => .error e
   | .ok rs => if adaptsP d.ts rs d.ad = 0 then .ok ⟨p, s.1, s.2, rs⟩ else .error (adaptsP d.ts rs d.ad)
def placeC (cs : List CoP) (n : ByteArray) : Option Nat := idxP (fun c => eqB c.nm n) cs
def placeP (ps : List PrP) (n : ByteArray) : Option Nat := idxP (fun p => eqB p.nm n) ps
def placeM (ms : List MtP) (n : ByteArray) : Option Nat := idxP (fun m => eqB m.nm n) ms
def faceC (n : ByteArray) : List CoP → List CoP → Except Int (List CoP)
 | [], cs => .ok cs
 | x :: r, cs => if eqB x.fr n = false then faceC n r cs else if (placeC cs x.nm).isSome = true then .error 21 else faceC n r (cs ++ [x])
def freshC (kn : List KC) : List ByteArray → List CoP → Except Int (List CoP)
 | [], cs => .ok cs
 | n :: r, cs => match faceC n ((findK kn n).getD KC.nil).1.cs cs with
  | .error e => .error e
  | .ok cs => freshC kn r cs
def ownC (nm : ByteArray) (hs : List ByteArray) : List CoP → List CoP → Except Int (List CoP)
 | [], cs => .ok cs
 | x :: r, cs => match placeC cs x.nm with
  | none => ownC nm hs r (cs ++ [⟨x.nm, nm, x.cd⟩])
  | some i => if hasB hs ((cs[i]?.map CoP.fr).getD ⟨#[]⟩) = true then .error 19 else ownC nm hs r (cs.set i ⟨x.nm, nm, x.cd⟩)
def constsP (d : ClP) (kn : List KC) (p : KC) (hs : List ByteArray) : Except Int (List CoP) :=
 match freshC kn hs p.1.cs with
 | .error e => .error e
 | .ok cs => ownC d.nm hs d.cs cs
def propP (nm : ByteArray) (x : PrP) (trait : Bool) (s : List PrP × List ByteArray) : Except Int (List PrP × List ByteArray) :=
 match placeP s.1 x.nm with
 | none => .ok (s.1 ++ [⟨x.nm, x.st, nm, x.cd⟩], if trait then x.nm :: s.2 else s.2)
 | some i => match s.1[i]? with
  | none => .error 0
  | some y =>
   if (hasB s.2 x.nm && (x.st != y.st || x.cd != y.cd)) = true then .error 21
   else if hasB s.2 x.nm = true then .ok (s.1, if trait then x.nm :: s.2 else s.2)
   else if (x.st != y.st) = true then .error 20
   else .ok (s.1.set i ⟨x.nm, x.st, nm, x.cd⟩, if trait then x.nm :: s.2 else s.2)
def propsP (nm : ByteArray) (trait : Bool) : List PrP → List PrP × List ByteArray → Except Int (List PrP × List ByteArray)
 | [], s => .ok s
 | x :: r, s => match propP nm x trait s with
  | .error e => .error e
  | .ok s => propsP nm trait r s
def traitPs (nm : ByteArray) : List KC → List PrP × List ByteArray → Except Int (List PrP × List ByteArray)
 | [], s => .ok s
 | t :: r, s => match propsP nm true t.1.ps s with
  | .error e => .error e
  | .ok s => traitPs nm r s
def allPs (d : ClP) (p : KC) (rs : List KC) : Except Int (List PrP × List ByteArray) :=
 match traitPs d.nm rs (p.1.ps, []) with
 | .error e => .error e
 | .ok s => propsP d.nm false d.ps s
def goneP (ad : List AdP) (t : KC) (m : MtP) : Bool := ad.any fun a => eqB a.nm m.nm && hasB a.ot t.1.nm
def gifts1 (ad : List AdP) (rs : List KC) : List MtP := rs.flatMap fun t => t.1.ms.filter fun m => !goneP ad t m
def asP (a : AdP) (t : KC) : MtP := let m := (methP t.1.ms a.nm).getD ⟨⟨#[]⟩, false, false, false, ⟨#[]⟩, 0⟩; ⟨a.sa, m.st, m.ab, m.fi, m.fr, m.cd⟩
def gifts2 (ad : List AdP) (rs : List KC) : List MtP := ad.flatMap fun a => if emT a.sa = true then [] else (meantP rs a).map (asP a)
def giftsP (ad : List AdP) (rs : List KC) : List MtP := gifts1 ad rs ++ gifts2 ad rs
def givenP (G : List (ByteArray × Bool)) (n : ByteArray) : Bool := (fstP (fun x => eqB x.1 n) G).map Prod.snd == some true
def methodP (d : ClP) (m0 : MtP) (trait : Bool) (s : List MtP × List (ByteArray × Bool)) : Except Int (List MtP × List (ByteArray × Bool)) :=
 let m : MtP := ⟨m0.nm, m0.st, m0.ab, m0.fi, d.nm, m0.cd⟩
 match placeM s.1 m.nm with
 | none => .ok (s.1 ++ [m], (m.nm, trait) :: s.2)
 | some i => match s.1[i]? with
  | none => .error 0
  | some y =>
   if givenP s.2 m.nm = true then
    if (!trait || y.ab) = true then .ok (s.1.set i m, s.2)
    else if (!m.ab && !(placeM d.ms m.nm).isSome) = true then .error 21
    else .ok s
   else if y.fi = true then .error 19
   else if (y.st != m.st) = true then .error 20
   else if ((trait && m.ab) && !y.ab) = true then .ok s
   else .ok (s.1.set i m, (m.nm, trait) :: s.2)
def methodsP (d : ClP) (trait : Bool) : List MtP → List MtP × List (ByteArray × Bool) → Except Int (List MtP × List (ByteArray × Bool))
 | [], s => .ok s
 | m :: r, s => match methodP d m trait s with
  | .error e => .error e
  | .ok s => methodsP d trait r s
def faceM : List MtP → List MtP → List MtP
 | [], ms => ms
 | m :: r, ms => faceM r (if (placeM ms m.nm).isSome = true then ms else ms ++ [m])
def facesM (kn : List KC) : List ByteArray → List MtP → List MtP
 | [], ms => ms
 | n :: r, ms => facesM kn r (faceM ((findK kn n).getD KC.nil).1.ms ms)
def allMs (d : ClP) (kn : List KC) (p : KC) (fs : List ByteArray) (rs : List KC) : Except Int (List MtP) :=
 match methodsP d true (giftsP d.ad rs) (facesM kn fs p.1.ms, []) with
 | .error e => .error e
 | .ok s => match methodsP d false d.ms s with
  | .error e => .error e
  | .ok s => if (decide (d.kd = 1) && (!d.ab && s.1.any fun m => m.ab)) = true then .error 10 else .ok s.1
def linkP (d : ClP) (kn : List KC) : Except Int ClP :=
 if rightP d = false then .error 1
 else if (findK kn d.nm).isSome = true then .error 9
 else match aboveP d kn with
  | .error e => .error e
  | .ok a => match constsP d kn a.p a.hs with
   | .error e => .error e
   | .ok cs => match allPs d a.p a.rs with
    | .error e => .error e
    | .ok ps => match allMs d kn a.p a.fs a.rs with
     | .error e => .error e
     | .ok ms => .ok ⟨d.nm, d.kd, d.ab, d.fi, d.pa, a.fs, d.ts, d.ad, cs, ps.1, ms⟩
end Go.Proofs.YtobjmajkcfhpoaaDoor
