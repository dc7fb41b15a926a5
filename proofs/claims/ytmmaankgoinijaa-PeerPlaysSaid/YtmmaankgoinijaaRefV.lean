/- The walks of the document's window: May, Take, List. -/
import Derived.Test.YtmmaankgoinijaaRefW
import Derived.Maps.AppendAt
import Derived.WalkSmall
namespace Go.Proofs.Ytmmaankgoinijaa
open Go.RowKit Go.Lib

theorem topL_le : ∀ (L : List Int) (m t : Int), m ≤ t → (∀ n ∈ L, n ≤ t) → L.foldl maxV m ≤ t
  | [], m, t, h, _ => h
  | x :: L, m, t, h, hL => by
    rw [List.foldl_cons]
    refine topL_le L _ t ?_ (fun n hn => hL n (List.mem_cons_of_mem _ hn))
    have := hL x (List.mem_cons_self ..)
    unfold maxV
    split <;> omega
theorem topL_ge : ∀ (L : List Int) (m : Int), m ≤ L.foldl maxV m ∧ ∀ n ∈ L, n ≤ L.foldl maxV m
  | [], m => ⟨Int.le_refl _, by simp⟩
  | x :: L, m => by
    rw [List.foldl_cons]
    obtain ⟨h1, h2⟩ := topL_ge L (maxV m x)
    have h3 : m ≤ maxV m x ∧ x ≤ maxV m x := by unfold maxV; split <;> omega
    refine ⟨by omega, fun n hn => ?_⟩
    rcases List.mem_cons.1 hn with rfl | hn
    · omega
    · exact h2 n hn
theorem WInv.topL {t g : Int} {L : List Int} (h : WInv t g L) : topL L = t := by
  have h1 := topL_le L 0 t h.t0 (fun n hn => (h.most n hn).2)
  have h2 := topL_ge L 0
  have := h.top
  unfold Go.Proofs.Ytmmaankgoinijaa.topL
  rcases this with h3 | h3
  · omega
  · have := h2.2 t h3; omega
theorem WInv.has {t g : Int} {L : List Int} (h : WInv t g L) (n : Int) (h1 : t - n < 64) (h2 : n ≤ t) : (L.any fun x => x == n) = marked g (t - n).toNat := by
  have := h.mark (t - n).toNat (by omega)
  rw [show (t - ((t - n).toNat : Int)) = n by omega] at this
  rw [Bool.eq_iff_iff, List.any_eq_true, this]
  constructor
  · rintro ⟨x, hx, e⟩
    rw [beq_iff_eq] at e
    rwa [← e]
  · intro hx
    exact ⟨n, hx, by simp⟩
theorem WInv.hasN {t g : Int} {L : List Int} (h : WInv t g L) (n : Int) (h2 : t < n) : (L.any fun x => x == n) = false := by
  rw [Bool.eq_false_iff, ne_eq, List.any_eq_true]
  rintro ⟨x, hx, e⟩
  rw [beq_iff_eq] at e
  have := (h.most x hx).2
  omega

theorem rtop_is (base b : Nat) (L : List Int) (t g : Int) (w : World) (h : RWin w base b L) (hI : WInv t g L) : Calls Try.prog 33 #[.pointer (some ⟨b, 0, none⟩)] w fun e w' => e = .returned (.int .i64 t) ∧ ∃ q, w' = w.drewN q := hI.topL ▸ rTop_any base b L w h
theorem rhas_is (base b : Nat) (L : List Int) (n : Int) (v : Bool) (w : World) (h : RWin w base b L) (hv : (L.any fun x => x == n) = v) : Calls Try.prog 34 #[.pointer (some ⟨b, 0, none⟩), .int .i64 n] w fun e w' => e = .returned (.bool v) ∧ ∃ q, w' = w.drewN q := hv ▸ rhas_any base b L n w h

theorem RWin.drewN {w : World} {base b : Nat} {L : List Int} (h : RWin w base b L) (q : Nat) : RWin (w.drewN q) base b L := h

set_option maxHeartbeats 2000000 in
theorem rMay_any (base b : Nat) (L : List Int) (t g n : Int) (w : World) (h : RWin w base b L) (hI : WInv t g L) (hn : -9223372036854775808 ≤ n ∧ n ≤ 9223372036854775807) :
    Calls Try.prog 36 #[.pointer (some ⟨b, 0, none⟩), .int .i64 n] w fun e w' => e = .returned (.int .i64 (mayV t g n)) ∧ ∃ q, w' = w.drewN q := by
  have t0 := hI.t0
  have t1 := hI.t1
  by_cases h1 : n < 1
  · have HV := Lib.hid (show mayV t g n = 2 by rw [mayV, if_pos (.inl h1)])
    go_enter Try.func36, Try.ntmps36
    go_wp2
    go_ret
    exact ⟨by rw [HV.out]; rfl, 0, rfl⟩
  · by_cases h2 : 65535 < n
    · have HV := Lib.hid (show mayV t g n = 2 by rw [mayV, if_pos (.inr h2)])
      go_enter Try.func36, Try.ntmps36
      go_wp2
      go_ret
      exact ⟨by rw [HV.out]; rfl, 0, rfl⟩
    · by_cases h3 : 64 ≤ t - n
      · have HV := Lib.hid (show mayV t g n = 180 by rw [mayV, if_neg (by omega), if_pos h3])
        go_enter Try.func36, Try.ntmps36
        go_wp2_with (go_at_call 33; refine (rtop_is base b L t g _ (by exact h) hI).mono ?_; rintro e w' ⟨rfl, q, rfl⟩)
        go_ret
        exact ⟨by rw [HV.out]; rfl, _, rfl⟩
      · obtain ⟨v, hv⟩ : ∃ v, (L.any fun x => x == n) = v := ⟨_, rfl⟩
        have hmv : mayV t g n = if v = true then 9 else 0 := by
          rw [mayV, if_neg (by omega), if_neg h3, ← hv]
          by_cases h4 : n ≤ t
          · rw [hI.has n (by omega) h4]
            by_cases h5 : marked g (t - n).toNat = true
            · rw [if_pos ⟨h4, h5⟩, if_pos h5]
            · rw [if_neg (fun e => h5 e.2), if_neg h5]
          · rw [hI.hasN n (by omega), if_neg (fun e => h4 e.1)]; rfl
        have HA := Lib.hid hv
        clear hv
        cases v with
        | true =>
          have HV := Lib.hid hmv
          clear hmv
          go_enter Try.func36, Try.ntmps36
          go_wp2_with (first | (go_at_call 33; refine (rtop_is base b L t g _ (by exact h) hI).mono ?_; rintro e w' ⟨rfl, q, rfl⟩) | (go_at_call 34; refine (rhas_is base b L n true _ (by exact h) HA.out).mono ?_; rintro e w' ⟨rfl, q2, rfl⟩))
          go_ret
          exact ⟨by rw [HV.out]; rfl, _, rfl⟩
        | false =>
          have HV := Lib.hid hmv
          clear hmv
          go_enter Try.func36, Try.ntmps36
          go_wp2_with (first | (go_at_call 33; refine (rtop_is base b L t g _ (by exact h) hI).mono ?_; rintro e w' ⟨rfl, q, rfl⟩) | (go_at_call 34; refine (rhas_is base b L n false _ (by exact h) HA.out).mono ?_; rintro e w' ⟨rfl, q2, rfl⟩))
          go_ret
          exact ⟨by rw [HV.out]; rfl, _, rfl⟩

def RWinV (w : World) (base b : Nat) (v : Value) (L : List Int) : Prop :=
  w.heap[b]? = some (.cells #[v] 59 (0, 0)) ∧ w.ownsRow base 3 1 v L.length (L.map (Value.int .i64))
theorem RWinV.win {w : World} {base b : Nat} {v : Value} {L : List Int} (h : RWinV w base b v L) (hl : L.length ≤ 1000) : RWin w base b L := ⟨v, h.1, h.2, hl⟩

set_option maxHeartbeats 2000000 in
theorem rTake_any (base b : Nat) (v : Value) (L : List Int) (t g n : Int) (w : World) (h : RWinV w base b v L) (hl : L.length < 1000) (hbase : base ≤ w.heap.size) (hI : WInv t g L) (hn : -9223372036854775808 ≤ n ∧ n ≤ 9223372036854775807) :
    Calls Try.prog 30 #[.pointer (some ⟨b, 0, none⟩), .int .i64 n] w fun e w' => e = .returned (.int .i64 (mayV t g n)) ∧
      (∃ v', RWinV w' base b v' (if mayV t g n = 0 then L ++ [n] else L)) ∧ Only (fun k => k = b ∨ v.ownBlock = some k) w w' := by
  have hwin := h.win (Nat.le_of_lt hl)
  obtain ⟨m, hm⟩ : ∃ m, mayV t g n = m := ⟨_, rfl⟩
  rw [hm]
  by_cases h0 : m = 0
  · subst h0
    have HM := Lib.hid hm
    clear hm
    obtain ⟨hc, hrow⟩ := h
    obtain ⟨i0, hi, hz0, hz1, hz2⟩ := info_parts infoInt
    obtain ⟨a, cap, rfl⟩ := ownsRow_slice hrow
    have hc0 : w.cell? ⟨b, 0, none⟩ = some (.slice a L.length cap) := by simp [World.cell?, hc]
    have hfz : w.frozen? ⟨b, 0, none⟩ = false := by simp [World.frozen?, hc]
    have hne : ¬ (Value.slice a L.length cap).ownBlock = some b := fun e => row_ne hrow hc (by decide) _ e rfl
    go_enter Try.func30, Try.ntmps30
    go_wp2_with (first | (go_at_call 36; refine (rMay_any base b L t g n _ (by exact hwin) hI hn).mono ?_; rw [HM.out]; rintro e w' ⟨rfl, q, rfl⟩) | (at_builtin; refine wpList_append_own _ rfl _ _ 47 rfl base 3 i0 (.int .i64 0) 1 8 Try.underlying47 hi hz0 hz1 hz2 rfl (by decide) _ _ _ rfl ((hrow.drewN _).alloc _) ⟨w.heap.size, 0, none⟩ 1 1 [.int .i64 n] rfl rfl (cell_one_new _ _ _) (by simp [Value.oneCell']) (by unfold maxLen; omega) (by omega) (by simp; omega) ?_; intro v' w1 hown' hgrow _; obtain ⟨a', cap', rfl⟩ := ownsRow_slice hown'; have hg : Only (fun k => (Value.slice a L.length cap).ownBlock = some k) w w1 := (((Only.refl _ w).drewN _).alloc _).grown hgrow (fun k e => e); have hcw := hg.obj hc hne; have hc1 : w1.cell? ⟨b, 0, none⟩ = some (.slice a L.length cap) := (by simp [World.cell?, hcw]); have hf1 : w1.frozen? ⟨b, 0, none⟩ = false := (by simp [World.frozen?, hcw])))
    go_ret
    have hs := (hg.shrink (T := fun k => k = b ∨ (Value.slice a L.length cap).ownBlock = some k) (fun k _ e => .inr e)).setCell (p := ⟨b, 0, none⟩) (.inl rfl) (.slice a' (L.length + 1) cap')
    refine ⟨rfl, ⟨.slice a' (L.length + 1) cap', ?_⟩, hs⟩
    have hk := ((Only.refl (fun k => k = b) w1).setCell (p := ⟨b, 0, none⟩) rfl (.slice a' (L.length + 1) cap')).owns hown' (fun k hk e => row_ne hown' hcw (by decide) k hk e)
    exact ⟨(set_cells hcw).trans (by simp), by simpa using hk⟩
  · have HM := Lib.hid hm
    have hm0 : (m == 0) = false := by simpa using h0
    rw [if_neg h0]
    clear hm h0
    go_enter Try.func30, Try.ntmps30
    go_wp2_with (first | (go_at_call 36; refine (rMay_any base b L t g n _ (by exact hwin) hI hn).mono ?_; rw [HM.out]; rintro e w' ⟨rfl, q, rfl⟩))
    go_ret
    exact ⟨rfl, ⟨v, h⟩, (Only.refl _ w).drewN _⟩

theorem _root_.Go.RowKit.Below.drewN {B : Nat} {a w : World} (h : Below B a w) (q : Nat) : Below B a (w.drewN q) := below_drewN h q

/-! The row of what was taken. -/
theorem winFrom_skip {t g : Int} {L : List Int} (hI : WInv t g L) : ∀ k : Nat, t ≤ k → k ≤ 64 → winFrom t g k = winFrom t g t.toNat
  | 0, h, _ => by have := hI.t0; rw [show t.toNat = 0 by omega]
  | k + 1, h, hk => by
    by_cases h1 : t ≤ k
    · rw [← winFrom_skip hI k h1 (by omega), winFrom, if_neg]
      intro hm
      have := hI.most _ ((hI.mark k (by omega)).1 hm)
      omega
    · rw [show t.toNat = k + 1 by omega]

set_option maxHeartbeats 2000000 in
theorem rList_any (base b : Nat) (L : List Int) (t g : Int) (w : World) (h : RWin w base b L) (hb : b < w.heap.size) (hI : WInv t g L) :
    Calls Try.prog 21 #[.pointer (some ⟨b, 0, none⟩)] w fun e w' => ∃ v, e = .returned v ∧ w'.ownsRow w.heap.size 3 1 v (winList t g).length ((winList t g).map (Value.int .i64)) ∧ Below w.heap.size w w' := by
  obtain ⟨i0, hi, hz0, hz1, hz2⟩ := info_parts infoInt
  have t0 := hI.t0
  have t1 := hI.t1
  have HI := Lib.hid hI
  by_cases h64 : t < 64
  · have hs := winFrom_skip hI 64 (by omega) (by omega)
    have HS := Lib.hid hs
    clear hs
    go_enter Try.func21, Try.ntmps21
    go_wp2_with (go_at_call 33; refine (rtop_is base b L t g _ (by exact h) HI.out).mono ?_; rintro e w' ⟨rfl, q, rfl⟩)
    go_loopw [3, 4] (fun vo no wr => ∃ (acc : List Int) (n : Int), 1 ≤ n ∧ n ≤ t + 1 ∧ no = .int .i64 n ∧ t - n < 64 ∧ acc ++ winFrom t g (t - n + 1).toNat = winList t g ∧ wr.ownsRow w.heap.size 3 1 vo acc.length (acc.map (Value.int .i64)) ∧ Below w.heap.size w wr) (fun _ no _ => (t + 1 - intOf no).toNat)
    case atStart => exact ⟨[], 1, by omega, by omega, rfl, by omega, by rw [List.nil_append, show (t - 1 + 1).toNat = t.toNat by omega]; exact HS.out.symm, World.ownsRow_nil _ _ _ _, (Below.refl _ _).drewN _⟩
    case round =>
      obtain ⟨acc, n, hn1, hn2, rfl, hn3, hacc, hrow, hB⟩ := hrel
      have hR : RWin wr base b L := h.kept (Only.of_below hB) id (fun _ _ _ => id)
      obtain ⟨aa, cap, rfl⟩ := ownsRow_slice hrow
      have hal : acc.length ≤ 64 := by
        have e := congrArg List.length hacc
        have := winFrom_length t g 64
        unfold winList at e
        simp at e
        omega
      by_cases hle : n ≤ t
      · obtain ⟨k, hk⟩ : ∃ k : Nat, (t - n).toNat = k := ⟨_, rfl⟩
        have e1 : (t - n + 1).toNat = k + 1 := by omega
        have e2 : t - (k : Int) = n := by omega
        have e3 : (t - (n + 1) + 1).toNat = k := by omega
        have hh := hI.has n hn3 hle
        rw [hk] at hh
        rw [e1, winFrom, e2] at hacc
        cases hm : marked g k with
        | true =>
          rw [hm] at hh hacc
          rw [if_pos rfl] at hacc
          have HA := Lib.hid hh
          have HC := Lib.hid hacc
          have HE := Lib.hid e3
          clear hh hacc e1 e2 e3 hm hI
          go_wp2_with (first | (go_at_call 33; refine (rtop_is base b L t g _ (by exact hR) HI.out).mono ?_; rintro e w' ⟨rfl, q, rfl⟩) | (go_at_call 34; refine (rhas_is base b L n true _ (by exact hR) HA.out).mono ?_; rintro e w' ⟨rfl, q2, rfl⟩) | (at_builtin; refine wpList_append_own _ rfl _ _ 47 rfl w.heap.size 3 i0 (.int .i64 0) 1 8 Try.underlying47 hi hz0 hz1 hz2 rfl (by decide) _ _ _ rfl ((hrow.drewN _).alloc _) ⟨wr.heap.size, 0, none⟩ 1 1 [.int .i64 n] rfl rfl (cell_one_new _ _ _) (by simp [Value.oneCell']) (by unfold maxLen; omega) (by omega) (by have := hB.size; simp; omega) ?_; intro v' w1 hown' hgrow _))
          have hg : Only (fun k => (Value.slice aa acc.length cap).ownBlock = some k) wr w1 := (((Only.refl _ wr).drewN _).alloc _).grown hgrow (fun k e => e)
          exact ⟨⟨acc ++ [n], n + 1, by omega, by omega, by first | rfl | go_num, by omega, by rw [HE.out, ← HC.out]; simp, by simpa using hown', hB.trans (hg.below hB.size (fun z e => (hrow.lt z e).1))⟩, by simp [intOf]; omega⟩
        | false =>
          rw [hm] at hh hacc
          rw [if_neg (by decide)] at hacc
          have HA := Lib.hid hh
          have HC := Lib.hid hacc
          have HE := Lib.hid e3
          clear hh hacc e1 e2 e3 hm hI
          go_wp2_with (first | (go_at_call 33; refine (rtop_is base b L t g _ (by exact hR) HI.out).mono ?_; rintro e w' ⟨rfl, q, rfl⟩) | (go_at_call 34; refine (rhas_is base b L n false _ (by exact hR) HA.out).mono ?_; rintro e w' ⟨rfl, q2, rfl⟩))
          exact ⟨⟨acc, n + 1, by omega, by omega, by first | rfl | go_num, by omega, by rw [HE.out]; exact HC.out, hrow, hB.drewN _⟩, by simp [intOf]; omega⟩
      · have HC := Lib.hid (show acc = winList t g by rw [← hacc, show (t - n + 1).toNat = 0 by omega]; simp [winFrom])
        clear hacc hI
        go_wp2_with (go_at_call 33; refine (rtop_is base b L t g _ (by exact hR) HI.out).mono ?_; rintro e w' ⟨rfl, q, rfl⟩)
        go_ret
        exact ⟨_, rfl, by rw [← HC.out]; exact hrow, hB.drewN _⟩
  · have hm : ¬ t - 63 < 1 := by omega
    go_enter Try.func21, Try.ntmps21
    go_wp2_with (go_at_call 33; refine (rtop_is base b L t g _ (by exact h) HI.out).mono ?_; rintro e w' ⟨rfl, q, rfl⟩)
    go_loopw [3, 4] (fun vo no wr => ∃ (acc : List Int) (n : Int), 1 ≤ n ∧ n ≤ t + 1 ∧ no = .int .i64 n ∧ t - n < 64 ∧ acc ++ winFrom t g (t - n + 1).toNat = winList t g ∧ wr.ownsRow w.heap.size 3 1 vo acc.length (acc.map (Value.int .i64)) ∧ Below w.heap.size w wr) (fun _ no _ => (t + 1 - intOf no).toNat)
    case atStart => exact ⟨[], t - 63, by omega, by omega, rfl, by omega, by rw [List.nil_append, show (t - (t - 63) + 1).toNat = 64 by omega]; rfl, World.ownsRow_nil _ _ _ _, (Below.refl _ _).drewN _⟩
    case round =>
      obtain ⟨acc, n, hn1, hn2, rfl, hn3, hacc, hrow, hB⟩ := hrel
      have hR : RWin wr base b L := h.kept (Only.of_below hB) id (fun _ _ _ => id)
      obtain ⟨aa, cap, rfl⟩ := ownsRow_slice hrow
      have hal : acc.length ≤ 64 := by
        have e := congrArg List.length hacc
        have := winFrom_length t g 64
        unfold winList at e
        simp at e
        omega
      by_cases hle : n ≤ t
      · obtain ⟨k, hk⟩ : ∃ k : Nat, (t - n).toNat = k := ⟨_, rfl⟩
        have e1 : (t - n + 1).toNat = k + 1 := by omega
        have e2 : t - (k : Int) = n := by omega
        have e3 : (t - (n + 1) + 1).toNat = k := by omega
        have hh := hI.has n hn3 hle
        rw [hk] at hh
        rw [e1, winFrom, e2] at hacc
        cases hm : marked g k with
        | true =>
          rw [hm] at hh hacc
          rw [if_pos rfl] at hacc
          have HA := Lib.hid hh
          have HC := Lib.hid hacc
          have HE := Lib.hid e3
          clear hh hacc e1 e2 e3 hm hI
          go_wp2_with (first | (go_at_call 33; refine (rtop_is base b L t g _ (by exact hR) HI.out).mono ?_; rintro e w' ⟨rfl, q, rfl⟩) | (go_at_call 34; refine (rhas_is base b L n true _ (by exact hR) HA.out).mono ?_; rintro e w' ⟨rfl, q2, rfl⟩) | (at_builtin; refine wpList_append_own _ rfl _ _ 47 rfl w.heap.size 3 i0 (.int .i64 0) 1 8 Try.underlying47 hi hz0 hz1 hz2 rfl (by decide) _ _ _ rfl ((hrow.drewN _).alloc _) ⟨wr.heap.size, 0, none⟩ 1 1 [.int .i64 n] rfl rfl (cell_one_new _ _ _) (by simp [Value.oneCell']) (by unfold maxLen; omega) (by omega) (by have := hB.size; simp; omega) ?_; intro v' w1 hown' hgrow _))
          have hg : Only (fun k => (Value.slice aa acc.length cap).ownBlock = some k) wr w1 := (((Only.refl _ wr).drewN _).alloc _).grown hgrow (fun k e => e)
          exact ⟨⟨acc ++ [n], n + 1, by omega, by omega, by first | rfl | go_num, by omega, by rw [HE.out, ← HC.out]; simp, by simpa using hown', hB.trans (hg.below hB.size (fun z e => (hrow.lt z e).1))⟩, by simp [intOf]; omega⟩
        | false =>
          rw [hm] at hh hacc
          rw [if_neg (by decide)] at hacc
          have HA := Lib.hid hh
          have HC := Lib.hid hacc
          have HE := Lib.hid e3
          clear hh hacc e1 e2 e3 hm hI
          go_wp2_with (first | (go_at_call 33; refine (rtop_is base b L t g _ (by exact hR) HI.out).mono ?_; rintro e w' ⟨rfl, q, rfl⟩) | (go_at_call 34; refine (rhas_is base b L n false _ (by exact hR) HA.out).mono ?_; rintro e w' ⟨rfl, q2, rfl⟩))
          exact ⟨⟨acc, n + 1, by omega, by omega, by first | rfl | go_num, by omega, by rw [HE.out]; exact HC.out, hrow, hB.drewN _⟩, by simp [intOf]; omega⟩
      · have HC := Lib.hid (show acc = winList t g by rw [← hacc, show (t - n + 1).toNat = 0 by omega]; simp [winFrom])
        clear hacc hI
        go_wp2_with (go_at_call 33; refine (rtop_is base b L t g _ (by exact hR) HI.out).mono ?_; rintro e w' ⟨rfl, q, rfl⟩)
        go_ret
        exact ⟨_, rfl, by rw [← HC.out]; exact hrow, hB.drewN _⟩
end Go.Proofs.Ytmmaankgoinijaa
