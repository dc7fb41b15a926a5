/- The walk of name.looks: the map that it makes says what each rune looks like. -/
import Derived.Test.YtflbbpmlcllamaaName
import Derived.Maps.OwnSet
import Derived.Maps.Views
namespace Go.Proofs.Ytflbbpmlcllamaa
open Go.RowKit Go.Lib Go.Maps

/-- A map's content, put for put (the last put first). -/
def DR : List (Int × Int) → DataW Unit
  | [] => .map []
  | p :: L => (DR L).put (.int .i32 p.1) (.lit (.int .i32 p.2))
def fR : List (Int × Int) → Int → Option Int
  | [], _ => none
  | p :: L, r => if r = p.1 then some p.2 else fR L r
def DOf (L : List (Int × Int)) : DataW Unit := DR L.reverse
def fOf (L : List (Int × Int)) : Int → Option Int := fR L.reverse
theorem DOf_snoc (L : List (Int × Int)) (p : Int × Int) : DOf (L ++ [p]) = (DOf L).put (.int .i32 p.1) (.lit (.int .i32 p.2)) := by simp [DOf, DR]
theorem DR_map (L : List (Int × Int)) : IsMap (DR L) := by
  induction L with
  | nil => exact isMap_empty
  | cons p L ih => exact ih.put _ _
theorem DR_says (L : List (Int × Int)) (r : Int) : Maps.has (DR L) (.int .i32 r) = (fR L r).isSome ∧ ∀ z, (DR L).atKey (.int .i32 r) z = match fR L r with | some v => .lit (.int .i32 v) | none => z := by
  induction L with
  | nil => exact ⟨rfl, fun z => rfl⟩
  | cons p L ih =>
    unfold DR fR
    by_cases h : r = p.1
    · subst h
      rw [if_pos rfl]
      exact ⟨has_put_same (DR_map L) (by simp [WideAt.IsKeyLit]) _, fun z => atKey_put_same (DR_map L) (by simp [WideAt.IsKeyLit]) _ z⟩
    · rw [if_neg h]
      have hne : (Lit.int .i32 r) ≠ .int .i32 p.1 := fun e => h (by injection e)
      exact ⟨(has_put_other hne _).trans ih.1, fun z => (atKey_put_other hne _ z).trans (ih.2 z)⟩

def rowsL : List (Int × List Int) := [(97, [945, 1072]), (98, [1074]), (99, [1089]), (101, [1077]), (105, [953]), (107, [954, 1082]), (109, [1084]), (110, [951, 1085]), (111, [959, 1086]), (112, [961, 1088]), (116, [964, 1090]), (117, [965]), (118, [957]), (120, [967, 1093]), (121, [947, 1091])]
def rowT (i : Nat) : Int := (rowsL.getD i (0, [])).1
def rowF (i : Nat) : List Int := (rowsL.getD i (0, [])).2
def pairsTo (i : Nat) : List (Int × Int) := [(48, 111), (49, 108)] ++ (rowsL.take i).flatMap fun p => p.2.map fun r => (r, p.1)
def pairsIn (i j : Nat) : List (Int × Int) := pairsTo i ++ ((rowF i).take j).map fun r => (r, rowT i)
theorem pairsIn_zero (i : Nat) : pairsIn i 0 = pairsTo i := by simp [pairsIn]
theorem pairsIn_succ (i j : Nat) (h : j < (rowF i).length) : pairsIn i (j + 1) = pairsIn i j ++ [((rowF i).getD j 0, rowT i)] := by
  unfold pairsIn
  rw [List.take_succ_eq_append_getElem h, List.getD_eq_getElem?_getD, List.getElem?_eq_getElem h]
  rw [List.map_append, List.append_assoc]
  rfl
theorem pairsTo_succ (i : Nat) (h : i < 15) : pairsTo (i + 1) = pairsIn i (rowF i).length := by
  have hl : i < rowsL.length := h
  unfold pairsIn pairsTo rowF rowT
  rw [List.take_succ_eq_append_getElem hl, List.getD_eq_getElem?_getD, List.getElem?_eq_getElem hl, List.flatMap_append, List.take_length]
  simp only [Option.getD_some, List.flatMap_cons, List.flatMap_nil, List.append_nil, List.append_assoc]
theorem pairs_len : ∀ i, i ≤ 15 → (pairsTo i).length ≤ 40 := by decide +kernel
theorem rowF_len : ∀ i, i < 15 → (rowF i).length ≤ 2 := by decide +kernel
theorem rows_bd : ∀ i, i < 15 → (-2147483648 ≤ rowT i ∧ rowT i ≤ 2147483647) ∧ ∀ j, j < (rowF i).length → -2147483648 ≤ (rowF i).getD j 0 ∧ (rowF i).getD j 0 ≤ 2147483647 := by decide +kernel
theorem wf_i32 {n : Int} (h : -2147483648 ≤ n ∧ n ≤ 2147483647) : (Lit.int .i32 n).wf = true := by
  simp [Lit.wf, IntKind.min, IntKind.max, IntKind.signed, IntKind.bits]; omega

theorem law32 : Keyed Try.prog 21 := int_keyed Try.underlying21

theorem allocs_heap (os : List Obj) : ∀ w : World, (os.foldl World.alloc w).heap = w.heap ++ os.toArray := by
  induction os with
  | nil => intro w; simp
  | cons o os ih => intro w; rw [List.foldl_cons, ih]; show (w.heap.push o) ++ os.toArray = _; simp
theorem allocs_at (os : List Obj) (w : World) (k : Nat) : (os.foldl World.alloc w).heap[w.heap.size + k]? = os[k]? := by
  rw [allocs_heap, Array.getElem?_append_right (by omega)]
  simp

theorem _root_.Go.World.ownsMap.kept' {w w' : World} {P : Program} {k : TypeId} {R : Value → Option (DataW Unit × List MemPlace)} {b n : Nat} {D : DataW Unit} {S : Nat → Prop} (h : w.ownsMap P k R b n D) (ho : Only S w w') (hb : ¬ S b) : w'.ownsMap P k R b n D := by
  obtain ⟨es, clock, h1, h2⟩ := h
  exact ⟨es, clock, ho.obj h1 hb, h2⟩

/-- The blocks that the table is made of. -/
def tab (G : Nat) : List Obj := [.cells #[.int .i32 945, .int .i32 1072] 21, .cells #[.int .i32 1074] 21, .cells #[.int .i32 1089] 21, .cells #[.int .i32 1077] 21, .cells #[.int .i32 953] 21, .cells #[.int .i32 954, .int .i32 1082] 21, .cells #[.int .i32 1084] 21, .cells #[.int .i32 951, .int .i32 1085] 21, .cells #[.int .i32 959, .int .i32 1086] 21, .cells #[.int .i32 961, .int .i32 1088] 21, .cells #[.int .i32 964, .int .i32 1090] 21, .cells #[.int .i32 965] 21, .cells #[.int .i32 957] 21, .cells #[.int .i32 967, .int .i32 1093] 21, .cells #[.int .i32 947, .int .i32 1091] 21, .cells #[.int .i32 97, .slice (some ⟨G, 0, none⟩) 2 2, .int .i32 98, .slice (some ⟨G + 1, 0, none⟩) 1 1, .int .i32 99, .slice (some ⟨G + 1 + 1, 0, none⟩) 1 1, .int .i32 101, .slice (some ⟨G + 1 + 1 + 1, 0, none⟩) 1 1, .int .i32 105, .slice (some ⟨G + 1 + 1 + 1 + 1, 0, none⟩) 1 1, .int .i32 107, .slice (some ⟨G + 1 + 1 + 1 + 1 + 1, 0, none⟩) 2 2, .int .i32 109, .slice (some ⟨G + 1 + 1 + 1 + 1 + 1 + 1, 0, none⟩) 1 1, .int .i32 110, .slice (some ⟨G + 1 + 1 + 1 + 1 + 1 + 1 + 1, 0, none⟩) 2 2, .int .i32 111, .slice (some ⟨G + 1 + 1 + 1 + 1 + 1 + 1 + 1 + 1, 0, none⟩) 2 2, .int .i32 112, .slice (some ⟨G + 1 + 1 + 1 + 1 + 1 + 1 + 1 + 1 + 1, 0, none⟩) 2 2, .int .i32 116, .slice (some ⟨G + 1 + 1 + 1 + 1 + 1 + 1 + 1 + 1 + 1 + 1, 0, none⟩) 2 2, .int .i32 117, .slice (some ⟨G + 1 + 1 + 1 + 1 + 1 + 1 + 1 + 1 + 1 + 1 + 1, 0, none⟩) 1 1, .int .i32 118, .slice (some ⟨G + 1 + 1 + 1 + 1 + 1 + 1 + 1 + 1 + 1 + 1 + 1 + 1, 0, none⟩) 1 1, .int .i32 120, .slice (some ⟨G + 1 + 1 + 1 + 1 + 1 + 1 + 1 + 1 + 1 + 1 + 1 + 1 + 1, 0, none⟩) 2 2, .int .i32 121, .slice (some ⟨G + 1 + 1 + 1 + 1 + 1 + 1 + 1 + 1 + 1 + 1 + 1 + 1 + 1 + 1, 0, none⟩) 2 2] 48]
def rowCells (G : Nat) (i : Nat) : Value := .slice (some ⟨G + i, 0, none⟩) (rowF i).length (rowF i).length

theorem tab_row (G i : Nat) (hi : i < 15) : (tab G)[i]? = some (.cells ((rowF i).map (Value.int .i32)).toArray 21) := by
  match i, hi with
  | 0, _ | 1, _ | 2, _ | 3, _ | 4, _ | 5, _ | 6, _ | 7, _ | 8, _ | 9, _ | 10, _ | 11, _ | 12, _ | 13, _ | 14, _ => rfl
theorem allocs_only (os : List Obj) : ∀ w : World, Only (fun _ => False) w (os.foldl World.alloc w) := by
  induction os with
  | nil => intro w; exact Only.refl _ _
  | cons o os ih => intro w; exact ((Only.refl _ w).alloc o).trans (ih _)

theorem tab_facts (w : World) : (∀ i, i < 15 → ((tab w.heap.size).foldl World.alloc w).cell? ⟨w.heap.size + 15, i * 2, none⟩ = some (.int .i32 (rowT i)) ∧ ((tab w.heap.size).foldl World.alloc w).cell? ⟨w.heap.size + 15, i * 2 + 1, none⟩ = some (rowCells w.heap.size i)) ∧
    ∀ i, i < 15 → ∀ j, j < (rowF i).length → ((tab w.heap.size).foldl World.alloc w).cell? ⟨w.heap.size + i, j, none⟩ = some (.int .i32 ((rowF i).getD j 0)) := by
  have h := allocs_at (tab w.heap.size) w
  refine ⟨fun i hi => ?_, fun i hi j hj => ?_⟩
  · have h15 := h 15
    have e : (tab w.heap.size)[15]? = some (.cells #[.int .i32 97, .slice (some ⟨w.heap.size, 0, none⟩) 2 2, .int .i32 98, .slice (some ⟨w.heap.size + 1, 0, none⟩) 1 1, .int .i32 99, .slice (some ⟨w.heap.size + 1 + 1, 0, none⟩) 1 1, .int .i32 101, .slice (some ⟨w.heap.size + 1 + 1 + 1, 0, none⟩) 1 1, .int .i32 105, .slice (some ⟨w.heap.size + 1 + 1 + 1 + 1, 0, none⟩) 1 1, .int .i32 107, .slice (some ⟨w.heap.size + 1 + 1 + 1 + 1 + 1, 0, none⟩) 2 2, .int .i32 109, .slice (some ⟨w.heap.size + 1 + 1 + 1 + 1 + 1 + 1, 0, none⟩) 1 1, .int .i32 110, .slice (some ⟨w.heap.size + 1 + 1 + 1 + 1 + 1 + 1 + 1, 0, none⟩) 2 2, .int .i32 111, .slice (some ⟨w.heap.size + 1 + 1 + 1 + 1 + 1 + 1 + 1 + 1, 0, none⟩) 2 2, .int .i32 112, .slice (some ⟨w.heap.size + 1 + 1 + 1 + 1 + 1 + 1 + 1 + 1 + 1, 0, none⟩) 2 2, .int .i32 116, .slice (some ⟨w.heap.size + 1 + 1 + 1 + 1 + 1 + 1 + 1 + 1 + 1 + 1, 0, none⟩) 2 2, .int .i32 117, .slice (some ⟨w.heap.size + 1 + 1 + 1 + 1 + 1 + 1 + 1 + 1 + 1 + 1 + 1, 0, none⟩) 1 1, .int .i32 118, .slice (some ⟨w.heap.size + 1 + 1 + 1 + 1 + 1 + 1 + 1 + 1 + 1 + 1 + 1 + 1, 0, none⟩) 1 1, .int .i32 120, .slice (some ⟨w.heap.size + 1 + 1 + 1 + 1 + 1 + 1 + 1 + 1 + 1 + 1 + 1 + 1 + 1, 0, none⟩) 2 2, .int .i32 121, .slice (some ⟨w.heap.size + 1 + 1 + 1 + 1 + 1 + 1 + 1 + 1 + 1 + 1 + 1 + 1 + 1 + 1, 0, none⟩) 2 2] 48) := rfl
    rw [e] at h15
    match i, hi with
    | 0, _ | 1, _ | 2, _ | 3, _ | 4, _ | 5, _ | 6, _ | 7, _ | 8, _ | 9, _ | 10, _ | 11, _ | 12, _ | 13, _ | 14, _ => exact ⟨(cell_of_row _ _ _ _ _ _ h15).trans rfl, (cell_of_row _ _ _ _ _ _ h15).trans rfl⟩
  · have hi' := h i
    rw [tab_row w.heap.size i hi] at hi'
    refine (cell_of_row _ _ j _ _ _ hi').trans ?_
    simp [List.getElem?_eq_getElem hj, List.getD_eq_getElem?_getD]

set_option maxRecDepth 100000 in
set_option maxHeartbeats 2000000 in
theorem looks_any (w : World) : Calls Try.prog 27 #[] w fun e w' => e = .returned (.map (some w.heap.size)) ∧ w'.ownsMap Try.prog 21 (plainElem Try.prog 21) w.heap.size 40 (DOf (pairsTo 15)) ∧ Below w.heap.size w w' := by
  have hmm := @run_makeMap Try.prog
  have hown0 := World.ownsMap_made (H := Unit) w Try.prog 21 (plainElem Try.prog 21)
  obtain ⟨wA, hrA, hownA, hgA⟩ := hown0.update law32 Try.underlying43 (by unfold maxLen; omega) (keyOf_int_mk Try.underlying21 (wf_i32 (n := 48) (by omega))) (plainElem_int Try.underlying21 (wf_i32 (n := 111) (by omega)))
  obtain ⟨wB, hrB, hownB, hgB⟩ := hownA.update law32 Try.underlying43 (by unfold maxLen; omega) (keyOf_int_mk Try.underlying21 (wf_i32 (n := 49) (by omega))) (plainElem_int Try.underlying21 (wf_i32 (n := 108) (by omega)))
  have hBB : Below w.heap.size w wB := (((Below.refl _ _).alloc (Nat.le_refl _) _).grown hgA (by simp) (fun k e => by cases e; omega)).grown hgB (by have := hgA.size; simp at this; omega) (fun k e => by cases e; omega)
  have hD : (DOf (pairsTo 0)) = ((DataW.map []).put (.int .i32 48) (.lit (.int .i32 111))).put (.int .i32 49) (.lit (.int .i32 108)) := rfl
  rw [← hD] at hownB
  have HD := Lib.hid hD
  clear hown0 hownA hgA hgB hD
  go_enter Try.func27, Try.ntmps27
  go_wp2
  obtain ⟨T1, T2⟩ := tab_facts wB
  obtain ⟨W0, hW0⟩ : ∃ W0, (tab wB.heap.size).foldl World.alloc wB = W0 := ⟨_, rfl⟩
  have oW : Only (fun _ => False) wB W0 := by rw [← hW0]; exact allocs_only _ _
  rw [hW0] at T1 T2
  change Code.wp _ _ _ _ ((tab wB.heap.size).foldl World.alloc wB)
  rw [hW0]
  have oW1 : W0.heap.size = wB.heap.size + 16 := by rw [← hW0, allocs_heap]; simp [tab]
  clear hW0
  have hgs : w.heap.size < wB.heap.size := by
    obtain ⟨_, _, hb, _⟩ := hownB
    exact (Array.getElem?_eq_some_iff.1 hb).1
  have hown := hownB.kept' oW id
  have hBW := hBB.trans (oW.below hBB.size (fun _ h => h.elim))
  clear hmm hrA hrB hownB hBB oW HD
  go_loopw [40] (fun vi wr => ∃ i : Nat, i ≤ 15 ∧ vi = .int .i64 i ∧ wr.ownsMap Try.prog 21 (plainElem Try.prog 21) w.heap.size (pairsTo i).length (DOf (pairsTo i)) ∧ Only (fun k => k = w.heap.size) W0 wr) (fun vi _ => 15 - (intOf vi).toNat)
  case atStart => exact ⟨0, by omega, rfl, hown, Only.refl _ _⟩
  case round =>
    obtain ⟨i, hi, rfl, hown, ho⟩ := hrel
    by_cases hlt : i < 15
    · obtain ⟨r1, r2⟩ := T1 i hlt
      replace r1 := ho.cell r1 (by show ¬ wB.heap.size + 15 = w.heap.size; omega)
      replace r2 := ho.cell r2 (by show ¬ wB.heap.size + 15 = w.heap.size; omega)
      unfold rowCells at r2
      have hF := fun j hj => ho.cell (T2 i hlt j hj) (by show ¬ wB.heap.size + i = w.heap.size; omega)
      have hfl := rowF_len i hlt
      have hpl := pairs_len i (by omega)
      obtain ⟨hT, hFb⟩ := rows_bd i hlt
      have hmc : wr.heap.size ≠ w.heap.size := by have := ho.size; omega
      go_wp2
      have hb15 : decide ((i : Int) < 15) = true := decide_eq_true (by omega)
      rw [hb15]
      clear hb15
      obtain ⟨wo, rfl⟩ : ∃ wo : World, wo = wr := ⟨_, rfl⟩
      have hown1 : (wo.alloc (.cells #[.int .i32 (rowT i), .slice (some ⟨wB.heap.size + i, 0, none⟩) (rowF i).length (rowF i).length] 48)).ownsMap Try.prog 21 (plainElem Try.prog 21) w.heap.size ((pairsTo i).length + 0) (DOf (pairsIn i 0)) := by
        rw [pairsIn_zero]
        exact hown.kept' ((Only.refl (fun _ => False) wo).alloc _) id
      have hbox := heap_alloc_new wo (.cells #[.int .i32 (rowT i), .slice (some ⟨wB.heap.size + i, 0, none⟩) (rowF i).length (rowF i).length] 48)
      have hso : wB.heap.size + 16 ≤ wo.heap.size := by have := ho.size; omega
      have ho1 : Only (fun k => k = w.heap.size) W0 _ := ho.alloc (.cells #[.int .i32 (rowT i), .slice (some ⟨wB.heap.size + i, 0, none⟩) (rowF i).length (rowF i).length] 48)
      have hF1 : ∀ j, j < (rowF i).length → (wo.alloc (.cells #[.int .i32 (rowT i), .slice (some ⟨wB.heap.size + i, 0, none⟩) (rowF i).length (rowF i).length] 48)).cell? ⟨wB.heap.size + i, j, none⟩ = some (.int .i32 ((rowF i).getD j 0)) :=
        fun j hj => ((Only.refl (fun _ => False) wo).alloc _).cell (hF j hj) id
      clear hF r1 r2 hown
      generalize (wo.alloc (.cells #[.int .i32 (rowT i), .slice (some ⟨wB.heap.size + i, 0, none⟩) (rowF i).length (rowF i).length] 48)) = W1 at *
      have hstep := pairsIn_succ i
      have HS := Lib.hid hstep
      have HE := Lib.hid (pairsTo_succ i hlt)
      clear hstep
      go_loopw [47] (fun vj wr => ∃ j : Nat, j ≤ (rowF i).length ∧ vj = .int .i64 j ∧ wr.ownsMap Try.prog 21 (plainElem Try.prog 21) w.heap.size ((pairsTo i).length + j) (DOf (pairsIn i j)) ∧ Only (fun k => k = w.heap.size) W1 wr) (fun vj _ => (rowF i).length - (intOf vj).toNat)
      case atStart => exact ⟨0, by omega, rfl, hown1, Only.refl _ _⟩
      case round =>
        obtain ⟨j, hj, rfl, hown, hoj⟩ := hrel
        by_cases hjl : j < (rowF i).length
        · have c1 := hoj.cell (hF1 j hjl) (by show ¬ wB.heap.size + i = w.heap.size; omega)
          have hbx := hoj.obj hbox hmc
          have c2 : wr.cell? ⟨wo.heap.size, 0, none⟩ = some (.int .i32 (rowT i)) := by simp [World.cell?, hbx]
          have hkb := hFb j hjl
          have HP := Lib.hid (HS.out j hjl)
          clear hF1 hbx hFb
          generalize (rowF i).getD j 0 = key at c1 hkb HP
          generalize rowT i = val at c2 hT HP
          go_wp2_with (at_mapUpdate; refine wpList_mapUpdate_own _ rfl _ _ _ 43 rfl 21 21 law32 Try.underlying43 _ w.heap.size _ _ rfl hown (by unfold maxLen; omega) _ _ _ rfl rfl (keyOf_int_mk Try.underlying21 (wf_i32 hkb)) _ [] (plainElem_int Try.underlying21 (wf_i32 hT)) ?_; intro w1 hown1 hgrow1)
          go_roundw
          case rel => exact ⟨j + 1, by omega, by go_num, by rw [HP.out, DOf_snoc]; exact hown1, hoj.grown hgrow1 (fun k e => by cases e; rfl)⟩
          case measure => simp [intOf]; omega
        · obtain rfl : j = (rowF i).length := by omega
          go_wp2
          exact ⟨⟨i + 1, by omega, by go_num, by rw [HE.out]; exact hown.mono (by simp [pairsIn]), ho1.trans hoj⟩, by simp [intOf]; omega⟩
    · obtain rfl : i = 15 := by omega
      go_wp2
      go_ret
      exact ⟨rfl, hown.mono (pairs_len 15 (by omega)), hBW.trans (ho.below (by omega) (fun k e => by omega))⟩
end Go.Proofs.Ytflbbpmlcllamaa
