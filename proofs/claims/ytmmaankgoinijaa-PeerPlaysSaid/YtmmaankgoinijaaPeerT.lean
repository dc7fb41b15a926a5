/- The walk of a peer's Take. -/
import Derived.Test.YtmmaankgoinijaaPeer
import Derived.Deep.RegionWith
namespace Go.Proofs.Ytmmaankgoinijaa
open Go.RowKit

def winS (s : PS) (n : Int) : PS := { s with t := nxtT s.t s.g n, g := nxtG s.t s.g n }

set_option maxHeartbeats 1000000 in
theorem take1_any (p bw B4 B7 : Nat) (s : PS) (n : Int) (w : World) (hP : PeerAt w p bw s) (hS : PBd s) (h4 : w.cell? ⟨B4, 0, none⟩ = some (.pointer (some ⟨p, 0, none⟩))) (h7 : w.cell? ⟨B7, 0, none⟩ = some (.int .i64 n)) (hb : -9223372036854775808 ≤ n ∧ n ≤ 9223372036854775807) :
    Calls Try.prog 26 #[.pointer (some ⟨B4, 0, none⟩), .pointer (some ⟨B7, 0, none⟩)] w fun e w' => e = .returned (.int .i64 (mayV s.t s.g n)) ∧ PeerAt w' p bw (winS s n) ∧ Only (fun k => k = bw) w w' := by
  obtain ⟨c0, c1, c2, c3⟩ := hP.cells
  have hne := hP.ne
  have hw := hP.2
  have t1 := hS.t1
  have t2 := hS.t2
  go_enter Try.func26, Try.ntmps26
  go_wp2
  go_region_with (go_at_call 27; refine (take_any bw s.t s.g n _ (by exact hw) t1 t2 hb).mono ?_; rintro e w' ⟨rfl, hw1, hg1⟩)
  all_goals go_wp2
  all_goals go_ret
  all_goals
    have ho : Only (fun k => k = bw) w w' := (Only.refl _ w).drew.grown hg1 (fun k e => by cases e; rfl)
    exact ⟨rfl, ⟨ho.obj hP.1 hne, hw1⟩, ho⟩

def takeV (s : PS) (x to n : Int) : Int :=
  if okE x = false ∨ okE to = false ∨ okN n = false then 2 else if to ≠ s.own then 190 else if x < s.known then 180 else mayV (hearS s x).t (hearS s x).g n
def takeS (s : PS) (x to n : Int) : PS :=
  if okE x = false ∨ okE to = false ∨ okN n = false ∨ to ≠ s.own ∨ x < s.known then s else winS (hearS s x) n

theorem hearS_bd {s : PS} (h : PBd s) (x : Int) (hx : okE x = true) : PBd (hearS s x) := by
  have hx' : 1 ≤ x ∧ x ≤ 255 := by simpa [okE] using hx
  unfold hearS
  split
  · exact ⟨h.o1, h.o2, hx'.1, hx'.2, h.s1, h.s2, by show (0 : Int) ≤ 0; omega, by show (0 : Int) ≤ 65535; omega, fun _ => rfl⟩
  · exact h

/-- A step that turns a block that was not there before. -/
theorem Only.trans' {S : Nat → Prop} {a b c : World} {n : Nat} (h : Only S a b) (k : Only (fun j => j = n) b c) (hn : a.heap.size ≤ n) : Only S a c :=
  ⟨k.os.trans h.os, k.tape.trans h.tape, k.output.trans h.output, Nat.le_trans h.size k.size, fun i hi hs => (k.block i (Nat.lt_of_lt_of_le hi h.size) (by omega)).trans (h.block i hi hs)⟩

set_option maxHeartbeats 2000000 in
/-- **Take**: its answer; the peer behind it; of what lay before nothing but the peer's blocks has turned. -/
theorem takeP_any (p bw : Nat) (s : PS) (x to n : Int) (w : World) (hP : PeerAt w p bw s) (hS : PBd s) (hb : -9223372036854775808 ≤ n ∧ n ≤ 9223372036854775807) :
    Calls Try.prog 9 #[.pointer (some ⟨p, 0, none⟩), .int .i64 x, .int .i64 to, .int .i64 n] w fun e w' => e = .returned (.int .i64 (takeV s x to n)) ∧ ∃ bw', (bw' = bw ∨ w.heap.size ≤ bw') ∧ PeerAt w' p bw' (takeS s x to n) ∧ Only (fun k => k = p ∨ k = bw) w w' := by
  obtain ⟨c0, c1, c2, c3⟩ := hP.cells
  have f0 := hP.frozen 0
  have f2 := hP.frozen 2
  have hne := hP.ne
  have hlt := hP.lt
  have hI2 : Ints (((w.alloc (.cells #[.pointer (some ⟨p, 0, none⟩)] 25)).alloc (.cells #[.int .i64 n] 3)).alloc (.cells #[.int .i64 x, .int .i64 to] 3)) (.slice (some ⟨w.heap.size + 1 + 1, 0, none⟩) 2 2) [x, to] :=
    ⟨_, 2, rfl, by simp [maxLen], fun _ => ⟨_, 0, rfl, fun i hi => by
      refine (cell_of_row _ _ (0 + i) _ _ _ (heap_at _ _ _ (by simp))).trans ?_
      match i, hi with
      | 0, _ | 1, _ => rfl⟩⟩
  have hI1 : Ints ((((w.alloc (.cells #[.pointer (some ⟨p, 0, none⟩)] 25)).alloc (.cells #[.int .i64 n] 3)).alloc (.cells #[.int .i64 x, .int .i64 to] 3)).alloc (.cells #[.int .i64 n] 3)) (.slice (some ⟨w.heap.size + 1 + 1 + 1, 0, none⟩) 1 1) [n] :=
    ⟨_, 1, rfl, by simp [maxLen], fun _ => ⟨_, 0, rfl, fun i hi => by
      refine (cell_of_row _ _ (0 + i) _ _ _ (heap_at _ _ _ (by simp))).trans ?_
      match i, hi with
      | 0, _ => rfl⟩⟩
  have e1 : allIn 255 [x, to] = (okE x && okE to) := by simp [allIn, okE]
  have e2 : allIn 65535 [n] = okN n := by simp [allIn, okN]
  have E1 := Lib.hid e1
  have E2 := Lib.hid e2
  clear e1 e2
  by_cases hbad : okE x = false ∨ okE to = false
  · have HB := Lib.hid (show (okE x && okE to) = false by rcases hbad with h | h <;> simp [h])
    have HV := Lib.hid (show takeV s x to n = 2 by rw [takeV, if_pos (by rcases hbad with h | h <;> simp [h])])
    have HS := Lib.hid (show takeS s x to n = s by rw [takeS, if_pos (by rcases hbad with h | h <;> simp [h])])
    clear hbad
    go_enter Try.func9, Try.ntmps9
    go_wp2_with (first | (go_at_call 22; ((with_reducible refine (within_any 255 [x, to] _ _ hI2).mono ?_)); rw [E1.out, HB.out]; rintro e w' ⟨rfl, rfl⟩))
    go_ret
    have ho := (((Only.refl (fun _ : Nat => False) w).alloc (.cells #[.pointer (some ⟨p, 0, none⟩)] 25)).alloc (.cells #[.int .i64 n] 3)).alloc (.cells #[.int .i64 x, .int .i64 to] 3)
    exact ⟨by rw [HV.out]; rfl, bw, .inl rfl, by rw [HS.out]; exact hP.kept ho id id, ho.shrink (fun k _ h => h.elim)⟩
  · have hx : okE x = true := by cases h : okE x <;> simp_all
    have hto : okE to = true := by cases h : okE to <;> simp_all
    have HB := Lib.hid (show (okE x && okE to) = true by rw [hx, hto]; rfl)
    have hbd := hearS_bd hS x hx
    have HX := Lib.hid (And.intro hx hto)
    clear hbad
    by_cases hn : okN n = false
    · have HN := Lib.hid hn
      have HV := Lib.hid (show takeV s x to n = 2 by rw [takeV, if_pos (.inr (.inr hn))])
      have HS := Lib.hid (show takeS s x to n = s by rw [takeS, if_pos (.inr (.inr (.inl hn)))])
      clear hn hx hto
      go_enter Try.func9, Try.ntmps9
      go_wp2_with (first | (go_at_call 22; ((with_reducible refine (within_any 255 [x, to] _ _ hI2).mono ?_)); rw [E1.out, HB.out]; rintro e w' ⟨rfl, rfl⟩) | (go_at_call 22; ((with_reducible refine (within_any 65535 [n] _ _ hI1).mono ?_)); rw [E2.out, HN.out]; rintro e w' ⟨rfl, rfl⟩))
      go_ret
      have ho := ((((Only.refl (fun _ : Nat => False) w).alloc (.cells #[.pointer (some ⟨p, 0, none⟩)] 25)).alloc (.cells #[.int .i64 n] 3)).alloc (.cells #[.int .i64 x, .int .i64 to] 3)).alloc (.cells #[.int .i64 n] 3)
      exact ⟨by rw [HV.out]; rfl, bw, .inl rfl, by rw [HS.out]; exact hP.kept ho id id, ho.shrink (fun k _ h => h.elim)⟩
    · have hn' : okN n = true := by simpa using hn
      have HN := Lib.hid hn'
      clear hn
      by_cases hown : to = s.own
      · rcases Int.lt_trichotomy x s.known with hlt' | heq | hgt
        · have HV := Lib.hid (show takeV s x to n = 180 by rw [takeV, hx, hto, hn', if_neg (by simp), if_neg (by simpa using hown), if_pos hlt'])
          have HS := Lib.hid (show takeS s x to n = s by rw [takeS, if_pos (.inr (.inr (.inr (.inr hlt'))))])
          clear hx hto hn'
          obtain ⟨own, known, sent, t, g⟩ := s
          dsimp only at c1 c2 c3 hown hlt'
          subst hown
          have ho := ((((Only.refl (fun _ : Nat => False) w).alloc (.cells #[.pointer (some ⟨p, 0, none⟩)] 25)).alloc (.cells #[.int .i64 n] 3)).alloc (.cells #[.int .i64 x, .int .i64 to] 3)).alloc (.cells #[.int .i64 n] 3)
          have d0 := ho.cell c0 id
          have d1 := ho.cell c1 id
          have d2 := ho.cell c2 id
          go_enter Try.func9, Try.ntmps9
          go_wp2_with (first | (go_at_call 22; ((with_reducible refine (within_any 255 [x, to] _ _ hI2).mono ?_)); rw [E1.out, HB.out]; rintro e w' ⟨rfl, rfl⟩) | (go_at_call 22; ((with_reducible refine (within_any 65535 [n] _ _ hI1).mono ?_)); rw [E2.out, HN.out]; rintro e w' ⟨rfl, rfl⟩) | go_in)
          go_ret
          exact ⟨by rw [HV.out]; rfl, bw, .inl rfl, by rw [HS.out]; exact hP.kept ho id id, ho.shrink (fun k _ h => h.elim)⟩
        · have hh : hearS s x = s := by rw [hearS, if_neg (by omega)]
          have HV := Lib.hid (show takeV s x to n = mayV s.t s.g n by rw [takeV, hx, hto, hn', if_neg (by simp), if_neg (by simpa using hown), if_neg (by omega), hh])
          have HS := Lib.hid (show takeS s x to n = winS s n by rw [takeS, hx, hto, hn', if_neg (by simp; omega), hh])
          clear hx hto hn' hh
          have hge : s.known ≤ x := by omega
          have hle : x ≤ s.known := by omega
          clear heq
          obtain ⟨own, known, sent, t, g⟩ := s
          dsimp only at c1 c2 c3 hown hge hle
          subst hown
          have ho := ((((Only.refl (fun _ : Nat => False) w).alloc (.cells #[.pointer (some ⟨p, 0, none⟩)] 25)).alloc (.cells #[.int .i64 n] 3)).alloc (.cells #[.int .i64 x, .int .i64 to] 3)).alloc (.cells #[.int .i64 n] 3)
          have hP1 := hP.kept ho id id
          have d0 := ho.cell c0 id
          have d1 := ho.cell c1 id
          have d2 := ho.cell c2 id
          go_enter Try.func9, Try.ntmps9
          go_wp2_with (first | (go_at_call 22; ((with_reducible refine (within_any 255 [x, to] _ _ hI2).mono ?_)); rw [E1.out, HB.out]; rintro e w' ⟨rfl, rfl⟩) | (go_at_call 22; ((with_reducible refine (within_any 65535 [n] _ _ hI1).mono ?_)); rw [E2.out, HN.out]; rintro e w' ⟨rfl, rfl⟩) | (go_at_call 26; refine (take1_any p bw _ _ ⟨to, known, sent, t, g⟩ n _ (by exact hP1) hS (by go_simp) (by go_simp) hb).mono ?_; rintro e w' ⟨rfl, hP2, ho2⟩) | go_in)
          go_ret
          have ho3 : Only (fun k => k = p ∨ k = bw) w w' := (ho.shrink (T := fun k => k = p ∨ k = bw) (fun k _ h => h.elim)).trans (ho2.shrink (fun k _ h => .inr h))
          exact ⟨by rw [HV.out]; rfl, bw, .inl rfl, by rw [HS.out]; exact hP2, ho3⟩
        · have hh : hearS s x = ⟨s.own, x, s.sent, 0, 0⟩ := by rw [hearS, if_pos hgt]
          have HV := Lib.hid (show takeV s x to n = mayV 0 0 n by rw [takeV, hx, hto, hn', if_neg (by simp), if_neg (by simpa using hown), if_neg (by omega), hh])
          have HS := Lib.hid (show takeS s x to n = winS ⟨s.own, x, s.sent, 0, 0⟩ n by rw [takeS, hx, hto, hn', if_neg (by simp; omega), hh])
          rw [hh] at hbd
          clear hx hto hn' hh
          obtain ⟨own, known, sent, t, g⟩ := s
          dsimp only at c1 c2 c3 hown hgt hbd
          subst hown
          have ho := ((((Only.refl (fun _ : Nat => False) w).alloc (.cells #[.pointer (some ⟨p, 0, none⟩)] 25)).alloc (.cells #[.int .i64 n] 3)).alloc (.cells #[.int .i64 x, .int .i64 to] 3)).alloc (.cells #[.int .i64 n] 3)
          have ho5 := ho.alloc (.cells #[.int .i64 0, .int .u64 0] 64)
          have d0 := ho.cell c0 id
          have d1 := ho.cell c1 id
          have d2 := ho.cell c2 id
          have g0 := ho5.cell c0 id
          have g2 := ho5.cell c2 id
          have hP6 : PeerAt (((((((w.alloc (.cells #[.pointer (some ⟨p, 0, none⟩)] 25)).alloc (.cells #[.int .i64 n] 3)).alloc (.cells #[.int .i64 x, .int .i64 to] 3)).alloc (.cells #[.int .i64 n] 3)).alloc (.cells #[.int .i64 0, .int .u64 0] 64)).setCell ⟨p, 2, none⟩ (.int .i64 x)).setCell ⟨p, 0, none⟩ (.pointer (some ⟨w.heap.size + 1 + 1 + 1 + 1, 0, none⟩))) p (w.heap.size + 1 + 1 + 1 + 1) ⟨to, x, sent, 0, 0⟩ := by
            refine ⟨(set_cells (set_cells (ho5.obj hP.1 id))).trans (by simp), ?_⟩
            rw [Win, Below.heap_setCell _ _ _ _ (by show _ ≠ p; omega), Below.heap_setCell _ _ _ _ (by show _ ≠ p; omega)]
            exact heap_at _ _ _ (by simp)
          have ho6 : Only (fun k => k = p) w (((((((w.alloc (.cells #[.pointer (some ⟨p, 0, none⟩)] 25)).alloc (.cells #[.int .i64 n] 3)).alloc (.cells #[.int .i64 x, .int .i64 to] 3)).alloc (.cells #[.int .i64 n] 3)).alloc (.cells #[.int .i64 0, .int .u64 0] 64)).setCell ⟨p, 2, none⟩ (.int .i64 x)).setCell ⟨p, 0, none⟩ (.pointer (some ⟨w.heap.size + 1 + 1 + 1 + 1, 0, none⟩))) := ((ho5.shrink (T := fun k => k = p) (fun k _ h => h.elim)).setCell (by rfl) _).setCell (by rfl) _
          have q0 := (hP.kept ho5 id id).frozen 0
          have q2 := (hP.kept ho5 id id).frozen 2
          go_enter Try.func9, Try.ntmps9
          go_wp2_with (first | (go_at_call 22; ((with_reducible refine (within_any 255 [x, to] _ _ hI2).mono ?_)); rw [E1.out, HB.out]; rintro e w' ⟨rfl, rfl⟩) | (go_at_call 22; ((with_reducible refine (within_any 65535 [n] _ _ hI1).mono ?_)); rw [E2.out, HN.out]; rintro e w' ⟨rfl, rfl⟩) | (go_at_call 23; refine (new_any _).mono ?_; rintro e w' ⟨rfl, rfl⟩) | (go_at_call 26; refine (take1_any p (w.heap.size + 1 + 1 + 1 + 1) _ _ ⟨to, x, sent, 0, 0⟩ n _ (by exact hP6) hbd (by go_simp) (by go_simp) hb).mono ?_; rintro e w' ⟨rfl, hP2, ho2⟩) | go_in)
          go_ret
          have ho3 : Only (fun k => k = p ∨ k = bw) w w' := (ho6.trans' ho2 (by omega)).shrink (fun k _ h => .inl h)
          exact ⟨by rw [HV.out]; rfl, w.heap.size + 1 + 1 + 1 + 1, .inr (by omega), by rw [HS.out]; exact hP2, ho3⟩
      · have HV := Lib.hid (show takeV s x to n = 190 by rw [takeV, hx, hto, hn', if_neg (by simp), if_pos hown])
        have HS := Lib.hid (show takeS s x to n = s by rw [takeS, if_pos (.inr (.inr (.inr (.inl hown))))])
        have hown' : (to != s.own) = true := by simpa using hown
        clear hx hto hn'
        have ho := ((((Only.refl (fun _ : Nat => False) w).alloc (.cells #[.pointer (some ⟨p, 0, none⟩)] 25)).alloc (.cells #[.int .i64 n] 3)).alloc (.cells #[.int .i64 x, .int .i64 to] 3)).alloc (.cells #[.int .i64 n] 3)
        have d0 := ho.cell c0 id
        have d1 := ho.cell c1 id
        go_enter Try.func9, Try.ntmps9
        go_wp2_with (first | (go_at_call 22; ((with_reducible refine (within_any 255 [x, to] _ _ hI2).mono ?_)); rw [E1.out, HB.out]; rintro e w' ⟨rfl, rfl⟩) | (go_at_call 22; ((with_reducible refine (within_any 65535 [n] _ _ hI1).mono ?_)); rw [E2.out, HN.out]; rintro e w' ⟨rfl, rfl⟩))
        go_ret
        exact ⟨by rw [HV.out]; rfl, bw, .inl rfl, by rw [HS.out]; exact hP.kept ho id id, ho.shrink (fun k _ h => h.elim)⟩
end Go.Proofs.Ytmmaankgoinijaa
