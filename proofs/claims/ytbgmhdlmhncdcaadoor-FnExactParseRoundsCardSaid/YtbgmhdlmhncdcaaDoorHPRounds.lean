/- The law of ParseRounds: rows of rows of one's own are marked and read again; the law's answer; the listed variables of the library lie as its text lays them; no other conditions. -/
import Derived.Test.YtbgmhdlmhncdcaaDoorQFnExactParseRoundsx4
import Derived.WalkKit
import Derived.KernelRfl
import Derived.Deep.LoopGhost
import Derived.Lib.Hide
namespace Go.Proofs.YtbgmhdlmhncdcaaDoor.QFnExactParseRounds
open Go Go.Proofs Go.RowKit Go.Shelf Go.Proofs.YtbgmhdlmhncdcaaDoorW.PrintWords Go.Proofs.YtbgmhdlmhncdcaaDoorW.PrintLast Go.Proofs.YtbgmhdlmhncdcaaDoorW.PrintMore
set_option maxRecDepth 100000
set_option linter.unusedVariables false
set_option linter.unusedSimpArgs false
/-- Rows of a row, no two of them in one block: the outer row's values us, row j holding F j. -/
structure Rows (w : World) (base : Nat) (v : Value) (us : List Value) (F : Nat → List Int) : Prop where
  out : w.ownsRow base 36 1 v us.length us
  row : ∀ (j : Nat) (h : j < us.length), w.ownsRow base 3 1 us[j] (F j).length (nums .i64 (F j))
  apart : ∀ (i j : Nat) (hi : i < us.length) (hj : j < us.length), i ≠ j → ∀ k, us[i].ownBlock = some k → us[j].ownBlock ≠ some k
theorem Rows.congr {w : World} {base : Nat} {v : Value} {us : List Value} {F G : Nat → List Int} (h : Rows w base v us F) (hf : ∀ j, j < us.length → F j = G j) : Rows w base v us G :=
  ⟨h.out, fun j hj => by rw [← hf j hj]; exact h.row j hj, h.apart⟩
theorem own_block_kind {w : World} {base : Nat} {e : TypeId} {v : Value} {n : Nat} {xs : List Value} (h : w.ownsRow base e 1 v n xs) : ∀ k, v.ownBlock = some k → base ≤ k ∧ k < w.heap.size ∧ ∃ cells, w.heap[k]? = some (.cells cells e (0, 0)) := by
  intro k hk
  rcases h.2 with ⟨rfl, _⟩ | ⟨g, cap, cur, rfl, hb, hg, _⟩
  · simp [Value.ownBlock] at hk
  · simp [Value.ownBlock] at hk
    subst hk
    exact ⟨hb, (Array.getElem?_eq_some_iff.1 hg).1, cur, hg⟩
theorem kinds_ne {w : World} {base : Nat} {v u : Value} {n m : Nat} {xs ys : List Value} (h : w.ownsRow base 36 1 v n xs) (h2 : w.ownsRow base 3 1 u m ys) : ∀ k, u.ownBlock = some k → v.ownBlock ≠ some k := by
  intro k hk hv
  obtain ⟨_, _, c1, e1⟩ := own_block_kind h k hv
  obtain ⟨_, _, c2, e2⟩ := own_block_kind h2 k hk
  rw [e1] at e2
  have := Option.some.inj e2
  injection this with _ h3
  exact absurd h3 (by decide)
theorem own_move {w w1 : World} {base : Nat} {e : TypeId} {v : Value} {n : Nat} {xs : List Value} (h : w.ownsRow base e 1 v n xs) (hk : ∀ k, v.ownBlock = some k → w1.heap[k]? = w.heap[k]?) : w1.ownsRow base e 1 v n xs := by
  refine ⟨h.1, ?_⟩
  rcases h.2 with h2 | ⟨g, cap, cur, rfl, hb, hg, hr⟩
  · exact .inl h2
  · exact .inr ⟨g, cap, cur, rfl, hb, (hk g (by simp [Value.ownBlock])).trans hg, hr⟩
theorem Rows.below {w w1 : World} {base : Nat} {v : Value} {us : List Value} {F : Nat → List Int} (h : Rows w base v us F) (hb : Below w.heap.size w w1) : Rows w1 base v us F :=
  ⟨own_move h.out fun k hk => hb.block k (own_block_kind h.out k hk).2.1, fun j hj => own_move (h.row j hj) fun k hk => hb.block k (own_block_kind (h.row j hj) k hk).2.1, h.apart⟩
theorem Rows.lower {w : World} {base base' : Nat} {v : Value} {us : List Value} {F : Nat → List Int} (h : Rows w base v us F) (hb : base' ≤ base) : Rows w base' v us F := by
  have lo : ∀ {e : TypeId} {u : Value} {n : Nat} {xs : List Value}, w.ownsRow base e 1 u n xs → w.ownsRow base' e 1 u n xs := fun h => by
    refine ⟨h.1, ?_⟩
    rcases h.2 with h2 | ⟨g, cap, cur, e1, hb1, hr⟩
    · exact .inl h2
    · exact .inr ⟨g, cap, cur, e1, Nat.le_trans hb hb1, hr⟩
  exact ⟨lo h.out, fun j hj => lo (h.row j hj), h.apart⟩
theorem rows_of_S {w : World} {base : Nat} {ok : Nat → Prop} {v : Value} {ls : List (List Int)} (h : Kd.S (Kd.slice 3 (Kd.int .i64)) 36 w base ok v ls) : ∃ us, us.length = ls.length ∧ Rows w base v us (fun j => ls.getD j []) := by
  obtain ⟨f, h0, inner, ho, hr⟩ := h
  have hlen : inner.length = ls.length := by
    have h1 := hr.1
    have h2 : (Kd.tag f (Kd.slice 3 (Kd.int .i64))).sz = 1 := rfl
    rw [h2, List.length_zipIdx] at h1
    omega
  have hM : ∀ (j : Nat) (hj : j < inner.length) , ∃ h2 : j < ls.length, Kd.R (Kd.int .i64) 3 w base (fun k => (ok k ∧ some k ≠ v.ownBlock) ∧ f k = j) inner[j] ls[j] := by
    intro j hj
    have h2 : j < ls.length := by omega
    obtain ⟨u, hu, hR⟩ := hr.2 j (ls[j], j) (Kd.zip_at (List.getElem?_eq_getElem h2))
    have h3 : (inner.drop (j * 1)).take 1 = [inner[j]] := by rw [Nat.mul_one, List.drop_eq_getElem_cons hj]; rfl
    have h4 : [inner[j]] = [u] := h3.symm.trans hu
    obtain rfl := List.cons.inj h4 |>.1
    exact ⟨h2, hR⟩
  refine ⟨inner, hlen, ?_, fun j hj => ?_, fun i j hi hj hij k hk hk2 => ?_⟩
  · rw [List.length_zipIdx, ← hlen] at ho
    exact ho
  · obtain ⟨h2, hR⟩ := hM j hj
    have h5 : ls.getD j [] = ls[j] := by rw [List.getD_eq_getElem?_getD, List.getElem?_eq_getElem h2]; rfl
    show w.ownsRow base 3 1 inner[j] (ls.getD j []).length (nums .i64 (ls.getD j []))
    rw [h5]
    exact Kd.own_of_R (enc := Value.int .i64) (h1 := fun _ => rfl) hR
  · obtain ⟨_, hR⟩ := hM i hi
    obtain ⟨_, hR2⟩ := hM j hj
    have e1 := (hR.1 k hk).2
    have e2 := (hR2.1 k hk2).2
    exact hij (e1.symm.trans e2)
/-- Rows of rows are read. -/
theorem Rows.reads {w : World} {base : Nat} {v : Value} {us : List Value} {F : Nat → List Int} (h : Rows w base v us F) (ls : List (List Int)) (hl : us.length = ls.length) (hF : ∀ (j : Nat) (hj : j < ls.length), F j = ls[j]) : ∃ A c, v = .slice A ls.length c ∧ ls.length ≤ c ∧ Kd.C (Kd.slice 3 (Kd.int .i64)) w A ls.length ls := by
  have hR : Kd.R (Kd.slice 3 (Kd.int .i64)) 36 w base (fun _ => True) v ls := by
    refine ⟨fun _ _ => trivial, us, ?_, ?_, fun j p hp => ?_⟩
    · rw [← hl]; exact h.out
    · rw [hl]; show ls.length = ls.length * 1; rw [Nat.mul_one]
    · obtain ⟨hj, rfl⟩ := List.getElem?_eq_some_iff.1 hp
      have hj2 : j < us.length := by omega
      refine ⟨us[j], ?_, ?_⟩
      · show (us.drop (j * 1)).take 1 = [us[j]]
        rw [Nat.mul_one, List.drop_eq_getElem_cons hj2]; rfl
      · have h1 := h.row j hj2
        rw [hF j hj] at h1
        exact Kd.R_of_own (enc := Value.int .i64) (h1 := fun _ => rfl) h1 fun k hk => ⟨trivial, fun e => kinds_ne h.out h1 k hk e.symm⟩
  exact Kd.R_reads hR
/-! ### what the law's marks are -/
theorem wrap64_sm {x : Int} (h0 : -9223372036854775808 ≤ x) (h1 : x < 9223372036854775808) : wrap64 x = x := by unfold wrap64; omega
/-- Numbers from one on. -/
def seqI (a : Int) (n : Nat) : List Int := (List.range n).map fun (t : Nat) => a + (t : Int)
theorem seqI_len (a : Int) (n : Nat) : (seqI a n).length = n := by unfold seqI; simp
theorem seqI_get (a : Int) (n i : Nat) (h : i < (seqI a n).length) : (seqI a n)[i] = a + (i : Int) := by
  have h1 : (seqI a n)[i] = a + (((List.range n)[i]'(by rw [List.length_range]; rw [seqI_len] at h; exact h) : Nat) : Int) := List.getElem_map ..
  rw [h1, List.getElem_range]
theorem rd_seqI (a : Int) (n : Nat) (j : Int) (h0 : 0 ≤ j) (h1 : j < n) : rd (seqI a n) j = a + j := by
  obtain ⟨m, rfl⟩ := Int.eq_ofNat_of_zero_le h0
  have hm : m < (seqI a n).length := by rw [seqI_len]; omega
  unfold rd
  rw [Int.toNat_natCast, List.getD_eq_getElem?_getD, List.getElem?_eq_getElem hm, seqI_get]
  rfl
theorem seqI_of (a : Int) (r : List Int) (n : Nat) (hl : r.length = n) (h : ∀ j : Int, 0 ≤ j → j < n → rd r j = a + j) : r = seqI a n := by
  refine List.ext_getElem (by rw [hl, seqI_len]) fun i h1 h2 => ?_
  have h3 := h (i : Int) (by omega) (by omega)
  unfold rd at h3
  rw [Int.toNat_natCast, List.getD_eq_getElem?_getD, List.getElem?_eq_getElem h1] at h3
  rw [seqI_get]
  exact h3
theorem rd_set_ (l : List Int) (i : Nat) (v : Int) (j : Int) (hj : 0 ≤ j) (hi : i < l.length) : rd (l.set i v) j = if j = (i : Int) then v else rd l j := by
  obtain ⟨m, rfl⟩ := Int.eq_ofNat_of_zero_le hj
  unfold rd
  rw [Int.toNat_natCast, List.getD_eq_getElem?_getD, List.getD_eq_getElem?_getD, List.getElem?_set]
  by_cases e : i = m
  · subst e; rw [if_pos rfl, if_pos hi, if_pos rfl]; rfl
  · rw [if_neg e, if_neg (by omega)]
theorem markS_l0 (n : Nat) (hn : n < 1000000) (a : Int) (ha0 : 0 ≤ a) (ha1 : a < 1000000000) (d : Nat) : ∀ (x : List Int) (i : Int), x.length = n → 0 ≤ i → i ≤ n → (n : Int) - i = d → (∀ j : Int, 0 ≤ j → j < i → rd x j = a + j) →
    ∃ r, Ev (fun k => laws_markIntS.l0 k x (a + i) i) (a + n, r) ∧ r.length = n ∧ ∀ j : Int, 0 ≤ j → j < n → rd r j = a + j := by
  induction d with
  | zero =>
    intro x i hx h0 h1 hd hj
    have hi : i = n := by omega
    subst hi
    exact ⟨x, Ev.step (f := fun _ => some (a + n, x)) (fun k => by simp only [laws_markIntS.l0]; rw [if_neg (by omega)]) (Ev.now _), hx, hj⟩
  | succ d ih =>
    intro x i hx h0 h1 hd hj
    have hlt : i < (x.length : Int) := by omega
    obtain ⟨r, hr, hl, hv⟩ := ih (x.set i.toNat (a + i)) (i + 1) (by simp [hx]) (by omega) (by omega) (by omega) (fun j h0j hji => by
      rw [rd_set_ _ _ _ _ h0j (by omega)]
      by_cases e : j = (i.toNat : Int)
      · rw [if_pos e]; omega
      · rw [if_neg e]; exact hj j h0j (by omega))
    have HW := Aside0.mk (show wrap64 (i + 1) = i + 1 ∧ wrap64 (a + i + 1) = a + (i + 1) from ⟨wrap64_sm (by omega) (by omega), by rw [wrap64_sm (by omega) (by omega)]; omega⟩)
    exact ⟨r, Ev.step (f := fun k => laws_markIntS.l0 k (x.set i.toNat (a + i)) (a + (i + 1)) (i + 1)) (fun k => by simp only [laws_markIntS.l0]; rw [if_pos hlt, if_pos h0, HW.out.1, HW.out.2]) hr, hl, hv⟩
theorem markS_ev (l : List Int) (hl : l.length < 1000000) (a : Int) (h0 : 0 ≤ a) (h1 : a < 1000000000) : Ev (fun k => laws_markIntS.f k l a) (a + (l.length : Int), seqI a l.length) := by
  obtain ⟨r, h2, h3, h4⟩ := markS_l0 l.length hl a h0 h1 l.length l 0 rfl (by omega) (by omega) (by omega) (fun j _ _ => by omega)
  rw [Int.add_zero] at h2
  rw [seqI_of a r l.length h3 h4] at h2
  exact h2
theorem heldS_l0 (n : Nat) (hn : n < 1000000) (a : Int) (ha0 : 0 ≤ a) (ha1 : a < 1000000000) (d : Nat) : ∀ (i : Int), 0 ≤ i → i ≤ n → (n : Int) - i = d → Ev (fun k => laws_heldIntS.l0 k (seqI a n) (a + i) i) (a + n) := by
  have hl := seqI_len a n
  induction d with
  | zero =>
    intro i h0 h1 hd
    have hi : i = n := by omega
    subst hi
    exact Ev.step (f := fun _ => some (a + n)) (fun k => by simp only [laws_heldIntS.l0]; rw [if_neg (by omega)]) (Ev.now _)
  | succ d ih =>
    intro i h0 h1 hd
    have hlt : i < ((seqI a n).length : Int) := by omega
    have hr := rd_seqI a n i h0 (by omega)
    have h3 := ih (i + 1) (by omega) (by omega) (by omega)
    have HW := Aside0.mk (show wrap64 (i + 1) = i + 1 ∧ wrap64 (a + i + 1) = a + (i + 1) from ⟨wrap64_sm (by omega) (by omega), by rw [wrap64_sm (by omega) (by omega)]; omega⟩)
    exact Ev.step (f := fun k => laws_heldIntS.l0 k (seqI a n) (a + (i + 1)) (i + 1)) (fun k => by simp only [laws_heldIntS.l0]; rw [if_pos hlt, if_pos h0, if_pos hr, HW.out.1, HW.out.2]) h3
theorem heldS_ev (n : Nat) (hn : n < 1000000) (a : Int) (h0 : 0 ≤ a) (h1 : a < 1000000000) : Ev (fun k => laws_heldIntS.f k (seqI a n) a) (a + (n : Int)) := by
  have := heldS_l0 n hn a h0 h1 n 0 (by omega) (by omega) (by omega)
  rw [Int.add_zero] at this
  exact this
/-- Rows, marked one behind the other. -/
def markedSS (a : Int) : List (List Int) → List (List Int)
  | [] => []
  | x :: r => seqI a x.length :: markedSS (a + (x.length : Int)) r
def cnt (ls : List (List Int)) : Nat := (ls.map List.length).sum
theorem cnt_cons (x : List Int) (r : List (List Int)) : cnt (x :: r) = x.length + cnt r := by unfold cnt; simp
theorem markedSS_len (ls : List (List Int)) : ∀ a, (markedSS a ls).length = ls.length := by
  induction ls with
  | nil => intro a; rfl
  | cons x r ih => intro a; unfold markedSS; rw [List.length_cons, List.length_cons, ih]
theorem cnt_take (ls : List (List Int)) : ∀ (i : Nat) (h : i < ls.length), cnt (ls.take (i + 1)) = cnt (ls.take i) + ls[i].length := by
  intro i h
  rw [List.take_succ_eq_append_getElem h]
  unfold cnt
  rw [List.map_append, List.sum_append]
  simp
theorem cnt_le (ls : List (List Int)) (i : Nat) : cnt (ls.take i) ≤ cnt ls := by
  have h : ls = ls.take i ++ ls.drop i := (List.take_append_drop i ls).symm
  have h2 : cnt ls = cnt (ls.take i) + cnt (ls.drop i) := by
    conv => lhs; rw [h]
    unfold cnt
    rw [List.map_append, List.sum_append]
  omega
theorem markedSS_at (ls : List (List Int)) : ∀ (a : Int) (i : Nat) (h : i < ls.length), (markedSS a ls)[i]'(by rw [markedSS_len]; exact h) = seqI (a + (cnt (ls.take i) : Int)) ls[i].length := by
  induction ls with
  | nil => intro a i h; exact absurd h (Nat.not_lt_zero _)
  | cons x r ih =>
    intro a i h
    cases i with
    | zero =>
      show seqI a x.length = seqI (a + ((0 : Nat) : Int)) x.length
      rw [show a + ((0 : Nat) : Int) = a by omega]
    | succ i =>
      have h2 := ih (a + (x.length : Int)) i (by simpa using h)
      show (markedSS (a + (x.length : Int)) r)[i]'_ = _
      rw [h2, List.take_succ_cons, cnt_cons]
      congr 1
      omega
theorem rd_L2_nat (l : List (List Int)) (i : Nat) (h : i < l.length) : rd_L2 l (i : Int) = l[i] := by unfold rd_L2; simp [h]
theorem heldSS_go (ls : List (List Int)) (a : Int) (h0 : 0 ≤ a) (ha : a < 1000000) (hc : cnt ls < 1000000) (hl : ls.length < 1000000) (d : Nat) : ∀ i : Nat, i + d = ls.length → Ev (fun k => laws_heldIntSS.l0 k (markedSS a ls) (a + (cnt (ls.take i) : Int)) (i : Int)) (a + (cnt ls : Int)) := by
  have hml := markedSS_len ls a
  induction d with
  | zero =>
    intro i hi
    rw [List.take_of_length_le (by omega)]
    exact Ev.step (f := fun _ => some (a + (cnt ls : Int))) (fun k => by simp only [laws_heldIntSS.l0]; rw [if_neg (by omega)]) (Ev.now _)
  | succ d ih =>
    intro i hi
    have hlt : i < ls.length := by omega
    have h1 := ih (i + 1) (by omega)
    have hct := cnt_take ls i hlt
    have hcl := cnt_le ls (i + 1)
    have hrd : rd_L2 (markedSS a ls) (i : Int) = seqI (a + (cnt (ls.take i) : Int)) ls[i].length := by rw [rd_L2_nat _ i (by omega), markedSS_at ls a i hlt]
    have hh := heldS_ev ls[i].length (by omega) (a + (cnt (ls.take i) : Int)) (by omega) (by omega)
    have e : a + (cnt (ls.take i) : Int) + (ls[i].length : Int) = a + (cnt (ls.take (i + 1)) : Int) := by omega
    rw [e] at hh
    have hneg : ¬ (a + (cnt (ls.take (i + 1)) : Int) < 0) := by omega
    have HW := Aside0.mk (show wrap64 ((i : Int) + 1) = ((i + 1 : Nat) : Int) from (wrap64_sm (by omega) (by omega)).trans (by omega))
    refine Ev.step (f := fun k => (laws_heldIntS.f k (seqI (a + (cnt (ls.take i) : Int)) ls[i].length) (a + (cnt (ls.take i) : Int))).bind fun t180 => (if t180 < 0 then (some (-1)) else (laws_heldIntSS.l0 k (markedSS a ls) t180 ((i + 1 : Nat) : Int)))) (fun k => ?_) (Ev.bind hh (Ev.congr (fun k => if_neg hneg) h1))
    simp only [laws_heldIntSS.l0]
    rw [if_pos (by omega), if_pos (by omega), hrd, HW.out]
theorem heldSS_ev (ls : List (List Int)) (a : Int) (h0 : 0 ≤ a) (ha : a < 1000000) (hc : cnt ls < 1000000) (hl : ls.length < 1000000) : Ev (fun k => laws_heldIntSS.f k (markedSS a ls) a) (a + (cnt ls : Int)) := by
  have := heldSS_go ls a h0 ha hc hl ls.length 0 (by omega)
  exact Ev.congr (f := fun k => laws_heldIntSS.l0 k (markedSS a ls) (a + (cnt (ls.take 0) : Int)) ((0 : Nat) : Int)) (fun k => by unfold laws_heldIntSS.f; rw [show a + (cnt (ls.take 0) : Int) = a from Int.add_zero a]; rfl) this
theorem eqS_go (l : List Int) (hl : l.length < 1000000) (d : Nat) : ∀ i : Nat, i + d = l.length → Ev (fun k => laws_eqIntS.l0 k l l (i : Int)) true := by
  induction d with
  | zero => intro i hi; exact Ev.step (f := fun _ => some true) (fun k => by simp only [laws_eqIntS.l0]; rw [if_neg (by omega)]) (Ev.now _)
  | succ d ih =>
    intro i hi
    have h1 := ih (i + 1) (by omega)
    have HW := Aside0.mk (show wrap64 ((i : Int) + 1) = ((i + 1 : Nat) : Int) from (wrap64_sm (by omega) (by omega)).trans (by omega))
    exact Ev.step (f := fun k => laws_eqIntS.l0 k l l ((i + 1 : Nat) : Int)) (fun k => by simp only [laws_eqIntS.l0]; rw [if_pos (by omega), if_pos (by omega), if_pos (by omega), if_pos trivial, HW.out]) h1
theorem eqS_ev (l : List Int) (hl : l.length < 1000000) : Ev (fun k => laws_eqIntS.f k l l) true :=
  Ev.congr (f := fun k => laws_eqIntS.l0 k l l ((0 : Nat) : Int)) (fun k => by unfold laws_eqIntS.f; rw [if_pos rfl]; rfl) (eqS_go l hl l.length 0 (by omega))
theorem eqSS_go (l : List (List Int)) (hl : l.length < 1000000) (hm : ∀ x ∈ l, x.length < 1000000) (d : Nat) : ∀ i : Nat, i + d = l.length → Ev (fun k => laws_eqIntSS.l0 k l l (i : Int)) true := by
  induction d with
  | zero => intro i hi; exact Ev.step (f := fun _ => some true) (fun k => by simp only [laws_eqIntSS.l0]; rw [if_neg (by omega)]) (Ev.now _)
  | succ d ih =>
    intro i hi
    have hlt : i < l.length := by omega
    have h1 := ih (i + 1) (by omega)
    have hr := rd_L2_nat l i hlt
    have he := eqS_ev l[i] (hm _ (List.getElem_mem hlt))
    have HW := Aside0.mk (show wrap64 ((i : Int) + 1) = ((i + 1 : Nat) : Int) from (wrap64_sm (by omega) (by omega)).trans (by omega))
    refine Ev.step (f := fun k => (laws_eqIntS.f k l[i] l[i]).bind fun t177 => (if t177 = true then (laws_eqIntSS.l0 k l l ((i + 1 : Nat) : Int)) else (some false))) (fun k => ?_) (Ev.bind he (Ev.congr (fun k => if_pos rfl) h1))
    simp only [laws_eqIntSS.l0]
    rw [if_pos (by omega), if_pos (by omega), if_pos (by omega), hr, HW.out]
theorem eqSS_ev (l : List (List Int)) (hl : l.length < 1000000) (hm : ∀ x ∈ l, x.length < 1000000) : Ev (fun k => laws_eqIntSS.f k l l) true :=
  Ev.congr (f := fun k => laws_eqIntSS.l0 k l l ((0 : Nat) : Int)) (fun k => by unfold laws_eqIntSS.f; rw [if_pos rfl]; rfl) (eqSS_go l hl hm l.length 0 (by omega))
/-! ### the walks -/
theorem Rows.step {w w1 : World} {base : Nat} {v : Value} {us : List Value} {F : Nat → List Int} (h : Rows w base v us F) (i : Nat) (hi : i < us.length) (m : List Int) (hk : Kept w w1 fun k => us[i].ownBlock = some k) (hm : w1.ownsRow base 3 1 us[i] m.length (nums .i64 m)) : Rows w1 base v us (fun j => if j = i then m else F j) := by
  refine ⟨own_move h.out fun k hv => hk.2 k (own_block_kind h.out k hv).2.1 fun hu => kinds_ne h.out (h.row i hi) k hu hv, fun j hj => ?_, h.apart⟩
  show w1.ownsRow base 3 1 us[j] (if j = i then m else F j).length (nums .i64 (if j = i then m else F j))
  by_cases c : j = i
  · subst c; rw [if_pos rfl]; exact hm
  · rw [if_neg c]
    exact own_move (h.row j hj) fun k hv => hk.2 k (own_block_kind (h.row j hj) k hv).2.1 fun hu => h.apart i j hi hj (fun e => c e.symm) k hu hv
theorem Rows.slice {w : World} {base : Nat} {v : Value} {us : List Value} {F : Nat → List Int} (h : Rows w base v us F) : ∃ A c, v = .slice A us.length c := by
  rcases h.out.2 with ⟨rfl, h0⟩ | ⟨g, cap, cur, rfl, _⟩
  · rw [h0]; exact ⟨_, _, rfl⟩
  · exact ⟨_, _, rfl⟩
theorem Rows.cell {w : World} {base : Nat} {A : Option Addr} {n c : Nat} {us : List Value} {F : Nat → List Int} (h : Rows w base (.slice A n c) us F) (i : Nat) (hi : i < us.length) : ∃ g, A = some ⟨g, 0, none⟩ ∧ w.cell? ⟨g, i, none⟩ = some us[i] := by
  rcases h.out.2 with ⟨_, h0⟩ | ⟨g, cap, cur, e, _, hg, _, _, _, ht⟩
  · omega
  · injection e with e1 e2 e3
    refine ⟨g, e1, ?_⟩
    obtain ⟨x, hx⟩ : ∃ x, us[i] = x := ⟨_, rfl⟩
    rw [hx]
    have h3 : cur[i]? = some x := by
      have h4 : us[i]? = some x := by rw [List.getElem?_eq_getElem hi, hx]
      rw [← ht, List.getElem?_take] at h4
      split at h4
      · simpa using h4
      · cases h4
    unfold World.cell?
    rw [hg]
    simp [h3]
set_option maxHeartbeats 4000000 in
theorem markIntSS_calls (v : Value) (us : List Value) (ls : List (List Int)) (a : Int) (w0 w : World) (hB : Below w0.heap.size w0 w) (hR : Rows w w0.heap.size v us (fun j => ls.getD j [])) (hl : us.length = ls.length) (h0 : 0 ≤ a) (ha : a < 1000000) (hc : cnt ls < 1000000) (hn : ls.length < 1000000) :
    Calls Tryd.prog 50 #[v, .int .i64 a] w fun e w' => e = .returned (.int .i64 (a + (cnt ls : Int))) ∧ Rows w' w0.heap.size v us (fun j => (markedSS a ls).getD j []) ∧ Below w0.heap.size w0 w' := by
  obtain ⟨A, c, rfl⟩ := hR.slice
  have hml := markedSS_len ls a
  have HL := Lib.hid hl
  have HB := Lib.hid hB
  have HN := Lib.hid hn
  have HRW := Lib.hid (show Rows w w0.heap.size (.slice A us.length c) us (fun j => if j < 0 then (markedSS a ls).getD j [] else ls.getD j []) from hR.congr fun j _ => by rw [if_neg (Nat.not_lt_zero j)])
  have HS := Lib.hid (fun (i : Nat) (hi : i < ls.length) (hi2 : i < us.length) (W : World) (hBW : Below w0.heap.size w0 W) (hW : Rows W w0.heap.size (.slice A us.length c) us (fun j => if j < i then (markedSS a ls).getD j [] else ls.getD j [])) =>
    (show Calls Tryd.prog 45 #[us[i]'hi2, .int .i64 (a + (cnt (ls.take i) : Int))] W fun e w' => e = .returned (.int .i64 (a + (cnt (ls.take (i + 1)) : Int))) ∧ Rows w' w0.heap.size (.slice A us.length c) us (fun j => if j < i + 1 then (markedSS a ls).getD j [] else ls.getD j []) ∧ Below w0.heap.size w0 w' by
      have hct := cnt_take ls i hi
      have hcl := cnt_le ls (i + 1)
      obtain ⟨k, hk⟩ := (markS_ev ls[i] (by omega) (a + (cnt (ls.take i) : Int)) (by omega) (by omega)).rounds
      have hrow := hW.row i hi2
      have hgi : (if i < i then (markedSS a ls).getD i [] else ls.getD i []) = ls[i] := by rw [if_neg (Nat.lt_irrefl i), List.getD_eq_getElem?_getD, List.getElem?_eq_getElem hi]; rfl
      simp only [hgi] at hrow
      refine (laws_markIntS.calls k (fun k => (us[i]'hi2).ownBlock = some k) (us[i]'hi2) ls[i] (a + (cnt (ls.take i) : Int)) _ _ w0 W hBW (Kd.R_of_own (enc := Value.int .i64) (h1 := fun _ => rfl) hrow fun k hk => hk) hk).mono ?_
      rintro e w' ⟨rfl, h1, h2, h3⟩
      refine ⟨by rw [hct]; congr 2; omega, ?_, h2⟩
      refine (hW.step i hi2 _ h3 (Kd.own_of_R (enc := Value.int .i64) (h1 := fun _ => rfl) h1)).congr fun j hj => ?_
      show (if j = i then _ else _) = _
      by_cases e1 : j = i
      · subst e1
        rw [if_pos rfl, if_pos (Nat.lt_succ_self j), List.getD_eq_getElem?_getD, List.getElem?_eq_getElem (by rw [hml]; exact hi), ← markedSS_at ls a j hi]
        rfl
      · rw [if_neg e1]
        by_cases e2 : j < i
        · rw [if_pos e2, if_pos (by omega)]
        · rw [if_neg e2, if_neg (by omega)]))
  have HE := Lib.hid (fun (W : World) (hW : Rows W w0.heap.size (.slice A us.length c) us (fun j => if j < ls.length then (markedSS a ls).getD j [] else ls.getD j [])) => hW.congr (G := fun j => (markedSS a ls).getD j []) fun j hj => by rw [if_pos (by omega)])
  have HT := Lib.hid (show cnt (ls.take ls.length) = cnt ls by rw [List.take_length])
  have HZ := Lib.hid (show Value.int .i64 a = Value.int .i64 (a + (cnt (ls.take 0) : Int)) by rw [show a + (cnt (ls.take 0) : Int) = a from Int.add_zero a])
  clear hB hR hc hml h0 ha hl hn
  go_enter Tryd.func50, Tryd.ntmps50
  go_wp2
  go_loopg [1, 5] ls.length (fun gg s1 s5 wr => ∃ i : Nat, i ≤ ls.length ∧ ls.length - i ≤ gg ∧ s1 = .int .i64 (a + (cnt (ls.take i) : Int)) ∧ s5 = .int .i64 i ∧ Hid (Rows wr w0.heap.size (.slice A us.length c) us (fun j => if j < i then (markedSS a ls).getD j [] else ls.getD j [])) ∧ Hid (Below w0.heap.size w0 wr))
  case atStart => exact ⟨0, Nat.zero_le _, by omega, HZ.out, rfl, HRW, HB⟩
  case round =>
    obtain ⟨i, hi, hg, rfl, rfl, HR1, HB1⟩ := hrel
    by_cases hlt : i < ls.length
    · have hlt2 : i < us.length := by have := HL.out; omega
      have hltI : (i : Int) < (us.length : Int) := by omega
      obtain ⟨g, rfl, hcell⟩ := HR1.out.cell i hlt2
      have HC := Lib.hid (HS.out i hlt hlt2)
      have HW := Lib.hid (show wrap64 ((i : Int) + 1) = ((i + 1 : Nat) : Int) from (wrap64_sm (by omega) (by have := HN.out; omega)).trans (by omega))
      generalize us[i] = u at *
      go_wp2_with (first | (go_at_call 45; refine (HC.out _ HB1.out HR1.out).mono ?_; rintro e w2 ⟨rfl, hr2, hb2⟩))
      have hwk := HW.out
      go_roundg (ls.length - (i + 1))
      case measure => omega
      case rel => exact ⟨i + 1, by omega, by omega, rfl, by first | rw [hwk] | (simp only [hwk]; done) | go_num, Lib.hid hr2, Lib.hid hb2⟩
    · have hkn : i = ls.length := by omega
      subst hkn
      have hlt2 : ¬ ((ls.length : Int) < (us.length : Int)) := by have := HL.out; omega
      go_wp2
      go_ret
      exact ⟨by first | rfl | rw [HT.out], HE.out _ HR1.out, HB1.out⟩
/-- Few rows, none long. -/
def Few (ls : List (List Int)) : Prop := ls.length ≤ 1000 ∧ ∀ x ∈ ls, x.length ≤ 100
theorem Few.cnt {ls : List (List Int)} (h : Few ls) : cnt ls ≤ 100000 := by
  have h2 : ∀ l : List (List Int), (∀ x ∈ l, x.length ≤ 100) → QFnExactParseRounds.cnt l ≤ l.length * 100 := by
    intro l
    induction l with
    | nil => intro _; exact Nat.le_refl _
    | cons x r ih =>
      intro hx
      have h3 := ih fun y hy => hx y (List.mem_cons_of_mem _ hy)
      have h4 := hx x (List.mem_cons_self ..)
      rw [cnt_cons, List.length_cons, Nat.add_mul, Nat.one_mul]
      omega
  have h3 := h2 ls h.2
  have h4 := h.1
  omega
theorem eq_wrap (ls : List (List Int)) (hf : Few ls) (A2 A1 : Option Addr) (c2 c1 : Nat) (W : World) (h2 : Kd.C (Kd.slice 3 (Kd.int .i64)) W A2 ls.length ls) (hc2 : ls.length ≤ c2) (h1 : Kd.C (Kd.slice 3 (Kd.int .i64)) W A1 ls.length ls) (hc1 : ls.length ≤ c1) :
    Calls Tryd.prog 49 #[.slice A2 ls.length c2, .slice A1 ls.length c1] W fun e w' => e = .returned (.bool true) ∧ Below W.heap.size W w' := by
  have hl := hf.1
  obtain ⟨k, hk⟩ := (eqSS_ev ls (by omega) fun x hx => by have := hf.2 x hx; omega).rounds
  refine (laws_eqIntSS.calls k A2 c2 ls A1 c1 ls true W h2 hc2 h1 hc1 hk).mono ?_
  rintro e w' ⟨he, hd⟩
  exact ⟨he, hd.below⟩
theorem held_wrap (ls : List (List Int)) (hf : Few ls) (A2 : Option Addr) (c2 : Nat) (us : List Value) (hl : us.length = ls.length) (base : Nat) (W : World) (h : Rows W base (.slice A2 ls.length c2) us (fun j => (markedSS 101 ls).getD j [])) :
    Calls Tryd.prog 51 #[.slice A2 ls.length c2, .int .i64 101] W fun e w' => e = .returned (.int .i64 (101 + (cnt ls : Int))) ∧ Below W.heap.size W w' := by
  have hml := markedSS_len ls 101
  have hl1 := hf.1
  have hl2 := hf.cnt
  obtain ⟨A, c, e1, hc, hC⟩ := h.reads (markedSS 101 ls) (by rw [hl, hml]) fun j hj => by rw [List.getD_eq_getElem?_getD, List.getElem?_eq_getElem hj]; rfl
  injection e1 with e2 e3 e4
  subst e2 e4
  obtain ⟨k, hk⟩ := (heldSS_ev ls 101 (by omega) (by omega) (by omega) (by omega)).rounds
  have h3 := laws_heldIntSS.calls k A2 c2 (markedSS 101 ls) 101 _ W hC hc hk
  rw [← e3] at h3
  refine h3.mono ?_
  rintro e w' ⟨he, hd⟩
  exact ⟨he, hd.below⟩
set_option maxHeartbeats 8000000 in
theorem law_calls (k : Nat) (a0 : ByteArray) (ls : List (List Int)) (q : Bool) (hsp : spec_ParseRounds.f k a0 = some (ls, q)) (him : impl_ParseRounds.f k a0 = some (ls, q)) (hf : Few ls) (hs : ¬ (a0.size : Int) > 1000000) (w : World) (ht : Hand.Laid w) :
    Calls Tryd.prog 11 #[.string a0] w fun e w' => e = .returned (.bool true) ∧ Below w.heap.size w w' := by
  have HSP := Lib.hid (fun W => spec_ParseRounds.calls k a0 ls q W hsp)
  have HIM := Lib.hid (fun W hW => impl_ParseRounds.calls k a0 ls q W him hW)
  have HT := Lib.hid ht
  have HF := Lib.hid hf
  have hneg : ¬ ((101 + (cnt ls : Int)) < 0) := by omega
  have hs1 : decide (1000000 < (a0.size : Int)) = false := decide_eq_false (by omega)
  have hs2 : decide (1000000 < a0.size) = false := decide_eq_false (by omega)
  clear hsp him ht hf
  go_enter Tryd.func11, Tryd.ntmps11
  go_wp2_with (go_at_call 47; refine (HSP.out _).mono ?_; rintro e w1 ⟨v1, rfl, hS1, hb1⟩; obtain ⟨A1, c1, rfl, hc1, hC1⟩ := Kd.S_reads hS1; have HB1 := Lib.hid hb1; have HC1 := Lib.hid hC1; have HK1 := Lib.hid hc1; clear hS1 hb1 hC1 hc1)
  go_wp2_with (go_at_call 48; refine (HIM.out _ (HT.out.below HB1.out)).mono ?_; rintro e w2 ⟨v2, rfl, hS2, hb2⟩; obtain ⟨us, hl, hR⟩ := rows_of_S hS2; obtain ⟨A2, c2, rfl, hc2, hC2⟩ := Kd.S_reads hS2; have HR2 := Lib.hid hR; have HL := Lib.hid hl; have HC2 := Lib.hid hC2; have HK2 := Lib.hid hc2; have HB2 := Lib.hid hb2; clear hS2 hR hl hC2 hc2 hb2)
  go_wp2_with (go_at_call 49; refine (eq_wrap ls HF.out A2 A1 c2 c1 _ HC2.out HK2.out (Kd.C_below HC1.out HB2.out) HK1.out).mono ?_; rintro e w3 ⟨rfl, hb3⟩; have HR3 := Lib.hid (HR2.out.below hb3); have HB3 := Lib.hid (below_step HB2.out hb3); clear hb3 HC2 HR2 HB2)
  go_wp2_with (go_at_call 50; refine (markIntSS_calls _ us ls 101 w1 _ HB3.out HR3.out HL.out (by omega) (by omega) (by have := HF.out.cnt; omega) (by have := HF.out.1; omega)).mono ?_; rintro e w4 ⟨rfl, hr4, hb4⟩; have HR4 := Lib.hid hr4; have HB4 := Lib.hid hb4; clear hr4 hb4 HR3 HB3)
  go_wp2_with (go_at_call 51; refine (held_wrap ls HF.out A2 c2 us HL.out w1.heap.size _ HR4.out).mono ?_; rintro e w5 ⟨rfl, hb5⟩; have HR5 := Lib.hid (HR4.out.below hb5); have HB5 := Lib.hid (below_step HB4.out hb5); clear hb5 HR4 HB4)
  go_wp2_with (go_at_call 48; refine (HIM.out _ (HT.out.below (below_step HB1.out HB5.out))).mono ?_; rintro e w6 ⟨v6, rfl, hS6, hb6⟩; obtain ⟨A6, c6, rfl, hc6, hC6⟩ := Kd.S_reads hS6; have HC6 := Lib.hid hC6; have HK6 := Lib.hid hc6; have HR6 := Lib.hid (HR5.out.below hb6); have HB6 := Lib.hid (below_step HB5.out hb6); clear hS6 hC6 hc6 hb6 HR5 HB5)
  go_wp2_with (go_at_call 49; refine (eq_wrap ls HF.out A6 A1 c6 c1 _ HC6.out HK6.out (Kd.C_below HC1.out HB6.out) HK1.out).mono ?_; rintro e w7 ⟨rfl, hb7⟩; have HR7 := Lib.hid (HR6.out.below hb7); have HB7 := Lib.hid (below_step HB6.out hb7); clear hb7 HR6 HB6)
  go_wp2_with (go_at_call 51; refine (held_wrap ls HF.out A2 c2 us HL.out w1.heap.size _ HR7.out).mono ?_; rintro e w8 ⟨rfl, hb8⟩; have HB8 := Lib.hid (below_step HB7.out hb8); clear hb8 HR7 HB7)
  go_ret
  exact ⟨rfl, below_step HB1.out HB8.out⟩
def laws_FnExactParseRounds.f (k : Nat) (a0 : ByteArray) : Option Bool := if (a0.size : Int) > 1000000 then some true else (spec_ParseRounds.f k a0).bind fun t => (impl_ParseRounds.f k a0).bind fun u => if (t.1 = u.1 ∧ t.2 = u.2) ∧ (t.1.length ≤ 1000 ∧ t.1.all (fun x => decide (x.length ≤ 100)) = true) then some true else none
theorem laws_FnExactParseRounds.calls (k : Nat) (a0 : ByteArray) (r : Bool) (w : World) (h : laws_FnExactParseRounds.f k a0 = some r) (ht_ : Hand.Laid w) :
    Calls Tryd.prog 11 #[.string a0] w fun e w' => e = .returned (.bool r) ∧ Below w.heap.size w w' := by
  unfold laws_FnExactParseRounds.f at h
  by_cases c : (a0.size : Int) > 1000000
  · rw [if_pos c] at h
    obtain rfl := Option.some.inj h
    have hs1 : decide (1000000 < (a0.size : Int)) = true := decide_eq_true (by omega)
    have hs2 : decide (1000000 < a0.size) = true := decide_eq_true (by omega)
    clear h c
    go_enter Tryd.func11, Tryd.ntmps11
    go_wp2
    go_ret
    exact ⟨rfl, Below.refl _ _⟩
  · rw [if_neg c] at h
    obtain ⟨⟨ls, q⟩, h1, h2⟩ := Option.bind_eq_some_iff.1 h
    obtain ⟨⟨ls2, q2⟩, h3, h4⟩ := Option.bind_eq_some_iff.1 h2
    split at h4
    · rename_i hc
      obtain ⟨⟨e1, e2⟩, h5, h6⟩ := hc
      have e1' : ls = ls2 := e1
      have e2' : q = q2 := e2
      subst e1' e2'
      obtain rfl := Option.some.inj h4
      exact law_calls k a0 ls q h1 h3 ⟨h5, fun x hx => of_decide_eq_true (List.all_eq_true.1 h6 x hx)⟩ c w ht_
    · cases h4
end Go.Proofs.YtbgmhdlmhncdcaaDoor.QFnExactParseRounds
