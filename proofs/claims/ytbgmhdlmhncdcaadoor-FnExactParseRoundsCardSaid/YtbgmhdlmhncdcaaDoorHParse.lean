/- The program's readNumbers reads the words of a text that is cut at a sign; the listed variables of the library lie as its text lays them; no other conditions. -/
import Derived.Test.YtbgmhdlmhncdcaaDoorHText
import Derived.Test.YtbgmhdlmhncdcaaDoorHNum
import Derived.WalkSmall
namespace Go.Proofs.YtbgmhdlmhncdcaaDoor.Hand
open Go Go.Proofs Go.RowKit Go.Shelf Go.Lib Go.Proofs.YtbgmhdlmhncdcaaDoorW.PrintWords Go.Proofs.YtbgmhdlmhncdcaaDoorW.PrintMore
set_option maxRecDepth 100000
set_option linter.unusedVariables false

/-- What the parse laws ask of a world: the library's table, its two sentinels and the number of bytes that a search may look for. -/
structure Laid (w : World) : Prop where
  tab : Tab10 w
  syn : ∃ tp p, w.var? Tryd.prog "strconv.ErrSyntax" = some #[.iface tp p]
  rng : ∃ tp p, w.var? Tryd.prog "strconv.ErrRange" = some #[.iface tp p]
  len : ∃ m : Int, w.cell? ⟨0, 0, none⟩ = some (.int .i64 m)
theorem gSyn : ∃ g, Tryd.prog.globalNamed "strconv.ErrSyntax" = some g := Option.isSome_iff_exists.1 (by kernel_rfl)
theorem gRng : ∃ g, Tryd.prog.globalNamed "strconv.ErrRange" = some g := Option.isSome_iff_exists.1 (by kernel_rfl)
theorem Laid.below {w w' : World} (h : Laid w) (hb : Below w.heap.size w w') : Laid w' := by
  obtain ⟨g1, h1⟩ := gSyn
  obtain ⟨g2, h2⟩ := gRng
  obtain ⟨tp1, p1, e1⟩ := h.syn
  obtain ⟨tp2, p2, e2⟩ := h.rng
  obtain ⟨m, hm⟩ := h.len
  refine ⟨h.tab.below hb, ⟨tp1, p1, Go.Joins.var_stays h1 e1 hb (Nat.le_refl _)⟩, ⟨tp2, p2, Go.Joins.var_stays h2 e2 hb (Nat.le_refl _)⟩, ⟨m, ?_⟩⟩
  rw [hb.cell (World.block_lt_of_cell? w _ hm)]
  exact hm

theorem atoi_ok (s : ByteArray) (hs : s.size ≤ 1000000) (v : Int) (h : Lib.atoiAll s.data.toList = .ok v) (w : World) :
    Calls Tryd.prog 74 #[.string s] w fun e w' => e = .returned (.tuple #[.int .i64 v, .nilIface]) ∧ Below w.heap.size w w' := by
  refine (Tryd.strconv_Atoi_ok s (by omega) v h w).mono ?_
  rintro e w' ⟨rfl, h2⟩
  refine ⟨rfl, ?_⟩
  rcases h2 with rfl | ⟨t, rfl⟩
  · exact Below.refl _ _
  · exact Lib.bytesWorld_below w 5 t
theorem atoi_no (s : ByteArray) (hs : s.size ≤ 1000000) (h : ∀ v, Lib.atoiAll s.data.toList ≠ .ok v) (w : World) (hl : Laid w) :
    Calls Tryd.prog 74 #[.string s] w fun e w' => ∃ (n : Int) (N : Nat), e = .returned (.tuple #[.int .i64 n, .iface 137 (.pointer (some ⟨N, 0, none⟩))]) ∧ Below w.heap.size w w' := by
  obtain ⟨tp1, p1, e1⟩ := hl.syn
  obtain ⟨tp2, p2, e2⟩ := hl.rng
  rcases ha : Lib.atoiAll s.data.toList with v | _ | _
  · exact absurd ha (h v)
  · refine (Any.strconv_Atoi_syntax_var Tryd.laysC172 s (by omega) ha tp1 p1 w e1).mono ?_
    rintro e w' ⟨N, rfl, _, _, hb⟩
    exact ⟨_, N, rfl, hb⟩
  · refine (Any.strconv_Atoi_range_var Tryd.laysC172 s (by omega) ha tp2 p2 w e2).mono ?_
    rintro e w' ⟨N, rfl, _, _, hb⟩
    exact ⟨_, N, rfl, hb⟩
theorem itoaI_calls (n : Int) (h0 : -9223372036854775808 ≤ n) (h1 : n ≤ 9223372036854775807) (w : World) (h : Tab10 w) :
    Calls Tryd.prog 88 #[.int .i64 n] w fun e w' => e = .returned (.string ⟨(Lib.itoa n).toArray⟩) ∧ Below w.heap.size w w' := by
  refine (Tryd.strconv_Itoa n h0 h1 w h).mono ?_
  rintro e w' ⟨rfl, k, os, rfl⟩
  exact ⟨rfl, below_grow _ w (Nat.le_refl _) k os⟩

theorem words_eq (s : ByteArray) (c : UInt8) : (Lib.splitB ⟨#[c]⟩ 0 (Lib.countB s ⟨#[c]⟩) s).map (·.data.toList) = cutAt c s.data.toList := by
  rw [Lib.splitB_data]
  refine splitK_cut c _ _ (Nat.le_refl _) _ ?_
  show List.count c s.data.toList ≤ Lib.count s.data.toList [c]
  rw [Lib.count_one]
  exact Nat.le_refl _
/-- The words of a text, in a block of their own. -/
def WordsAt (W : World) (G : Nat) (ws : List ByteArray) : Prop := ∃ cur : Array Value, W.heap[G]? = some (.cells cur 9 (0, 0)) ∧ ∀ (j : Nat) (h : j < ws.length), cur[j]? = some (.string ws[j])
theorem WordsAt.lt {W : World} {G : Nat} {ws : List ByteArray} (h : WordsAt W G ws) : G < W.heap.size := by
  obtain ⟨cur, h1, _⟩ := h
  exact (Array.getElem?_eq_some_iff.1 h1).1
theorem WordsAt.cell {W : World} {G : Nat} {ws : List ByteArray} (h : WordsAt W G ws) (j : Nat) (hj : j < ws.length) : W.cell? ⟨G, j, none⟩ = some (.string ws[j]) := by
  obtain ⟨cur, h1, h2⟩ := h
  unfold World.cell?
  rw [h1]
  simp [h2 j hj]
theorem WordsAt.below {W W' : World} {G : Nat} {ws : List ByteArray} (h : WordsAt W G ws) (hb : Below W.heap.size W W') : WordsAt W' G ws := by
  obtain ⟨cur, h1, h2⟩ := h
  exact ⟨cur, (hb.block G (Array.getElem?_eq_some_iff.1 h1).1).trans h1, h2⟩
theorem WordsAt.grown {W W' : World} {G : Nat} {ws : List ByteArray} {r : Option Nat} (h : WordsAt W G ws) (hb : W.grownBy W' r) (hr : some G ≠ r) : WordsAt W' G ws := by
  obtain ⟨cur, h1, h2⟩ := h
  exact ⟨cur, (hb.block G (Array.getElem?_eq_some_iff.1 h1).1 hr).trans h1, h2⟩
theorem own_ne {G : Nat} {W : World} {v v1 : Value} (hne : some G ≠ v.ownBlock) (hG : G < W.heap.size) (hat : v1.ownBlock = v.ownBlock ∨ ∃ b, v1.ownBlock = some b ∧ W.heap.size ≤ b) : some G ≠ v1.ownBlock := by
  intro e
  rcases hat with h | ⟨b, h, h2⟩
  · exact hne (e.trans h)
  · rw [h] at e
    have := Option.some.inj e
    omega
theorem WordsAt.new (w : World) (xs : List ByteArray) (cur : Array Value) (h : ∀ (j : Nat) (h : j < xs.length), cur[j]? = some (.string xs[j])) : WordsAt (w.alloc (.cells cur 9)) w.heap.size xs :=
  ⟨cur, Array.getElem?_push_size (xs := w.heap) (x := Obj.cells cur 9), h⟩
theorem one_size (c : UInt8) : 1 ≤ (⟨#[c]⟩ : ByteArray).size := Nat.le_refl 1
theorem split_calls (s : ByteArray) (c : UInt8) (w : World) (hs : s.size ≤ 1000000) (hl : Laid w) :
    Calls Tryd.prog 110 #[.string s, .string ⟨#[c]⟩] w fun e w' => ∃ (G : Nat) (ws : List ByteArray), e = .returned (.slice (some ⟨G, 0, none⟩) ws.length ws.length) ∧ ws.map (·.data.toList) = cutAt c s.data.toList ∧ w.heap.size ≤ G ∧ WordsAt w' G ws ∧ Below w.heap.size w w' := by
  obtain ⟨m, hm⟩ := hl.len
  refine (Any.strings_Split { Tryd.laysM146 with } Tryd.laysM146.i9 s ⟨#[c]⟩ m w (by omega) hm (one_size c)).mono ?_
  rintro e w' ⟨rfl, rfl⟩
  have h1 := words_eq s c
  have h2 := Lib.splitB_all ⟨#[c]⟩ (one_size c) 0 _ s rfl
  refine ⟨w.heap.size, _, ?_, h1, Nat.le_refl _, WordsAt.new w _ _ (fun j hj => ?_), below_alloc (Below.refl _ _) _⟩
  · rw [h2]
  · rw [List.getElem?_toArray, List.getElem?_map, List.getElem?_eq_getElem hj]; rfl
theorem cutAt_le (c : UInt8) (l : List UInt8) : ∀ x ∈ cutAt c l, x.length ≤ l.length := by
  induction l with
  | nil => intro x hx; simp [cutAt] at hx; subst hx; exact Nat.le_refl _
  | cons b l ih =>
    intro x hx
    by_cases h : b = c
    · subst h
      rw [cutAt_sign] at hx
      rcases List.mem_cons.1 hx with rfl | hx
      · simp
      · have := ih x hx; rw [List.length_cons]; omega
    · cases e : cutAt c l with
      | nil => exact absurd e (cutAt_ne c l)
      | cons y r =>
        rw [cutAt_more c b l h y r e] at hx
        rw [e] at ih
        rcases List.mem_cons.1 hx with rfl | hx
        · have := ih y (List.mem_cons_self ..); rw [List.length_cons, List.length_cons]; omega
        · have := ih x (List.mem_cons_of_mem _ hx); rw [List.length_cons]; omega

/-- What readNumbers gives for the words of a text. -/
def rnVals (xs : List (List UInt8)) : List Int := xs.map fun x => (wordNum x).getD 0
def rnRes (xs : List (List UInt8)) : List Int × Bool := if xs.all (fun x => (wordNum x).isSome) = true then (rnVals xs, true) else ([], false)
theorem rnVals_len (xs : List (List UInt8)) : (rnVals xs).length = xs.length := List.length_map ..
theorem rnRes_no {xs : List (List UInt8)} {j : Nat} (h : j < xs.length) (hn : wordNum xs[j] = none) : rnRes xs = ([], false) := by
  unfold rnRes
  rw [if_neg]
  intro h2
  have := List.all_eq_true.1 h2 xs[j] (List.getElem_mem h)
  rw [hn] at this
  cases this
theorem rnRes_yes {xs : List (List UInt8)} (h : ∀ (j : Nat) (h : j < xs.length), (wordNum xs[j]).isSome = true) : rnRes xs = (rnVals xs, true) := by
  unfold rnRes
  rw [if_pos]
  refine List.all_eq_true.2 fun x hx => ?_
  obtain ⟨j, hj, rfl⟩ := List.getElem_of_mem hx
  exact h j hj
theorem rnVals_snoc (xs : List (List UInt8)) (kk : Nat) (h : kk < xs.length) (v : Int) (hv : wordNum xs[kk] = some v) : (rnVals xs).take (kk + 1) = (rnVals xs).take kk ++ [v] := by
  have h1 : kk < (rnVals xs).length := by rw [rnVals_len]; exact h
  rw [List.take_succ_eq_append_getElem h1]
  have h2 : (rnVals xs)[kk] = v := by
    have h3 : (rnVals xs)[kk] = (wordNum xs[kk]).getD 0 := List.getElem_map ..
    rw [h3, hv]; rfl
  rw [h2]
theorem own_empty3 (w : World) : (w.alloc (.cells #[] 3)).ownsRow w.heap.size 3 1 (.slice (some ⟨w.heap.size, 0, none⟩) 0 0) 0 [] :=
  ⟨rfl, .inr ⟨w.heap.size, 0, #[], rfl, Nat.le_refl _, Array.getElem?_push_size (xs := w.heap) (x := Obj.cells #[] 3), Nat.le_refl _, Nat.zero_le _, rfl, rfl⟩⟩
end Go.Proofs.YtbgmhdlmhncdcaaDoor.Hand
