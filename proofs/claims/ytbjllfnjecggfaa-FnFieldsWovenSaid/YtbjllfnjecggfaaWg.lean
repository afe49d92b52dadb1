/- Walks: slices.Clone at singles; the parts of a line; Delay. -/
import Derived.Test.YtbjllfnjecggfaaWf
import Derived.Laws.CopyOwn
namespace Go.Proofs.Ytbjllfnjecggfaa
open Go.RowKit

theorem Rf.addr {w : World} {v : Value} {xs : List Nat} (h : Rf w v xs) : (∃ c, v = .slice none 0 c ∧ xs = []) ∨ ∃ ad c, v = .slice (some ad) xs.length c ∧ ∀ j u, (xs.map fl)[j]? = some u → w.cell? (ad.add j) = some u := by
  rcases h.split with ⟨o, c, rfl, rfl⟩ | ⟨b, off, cap, rfl, h1, h2, hc⟩
  · cases o with
    | none => exact .inl ⟨c, rfl, rfl⟩
    | some ad => exact .inr ⟨ad, c, rfl, fun j u hu => by simp at hu⟩
  · refine .inr ⟨_, cap, rfl, fun j u hu => ?_⟩
    have hj : j < xs.length := by have := (List.getElem?_eq_some_iff.1 hu).1; simpa using this
    rw [Addr.add_lit, hc j hj, ← hu]
    simp [List.getD, hj]
theorem Rf.sub {w : World} {b off cap f t : Nat} {xs : List Nat} (hft : f ≤ t) (ht : t ≤ xs.length) (h1 : xs.length ≤ cap) (h2 : cap ≤ maxLen) (hc : ∀ j, j < xs.length → w.cell? ⟨b, off + j, none⟩ = some (.float .f32 (xs.getD j 0))) :
    Rf w (.slice (some ⟨b, off + f, none⟩) (t - f) (cap - f)) ((xs.drop f).take (t - f)) := by
  have hl : ((xs.drop f).take (t - f)).length = t - f := by simp; omega
  refine .inr ⟨b, off + f, cap - f, by rw [List.length_map, hl], by rw [List.length_map, hl]; omega, by omega, fun j hj => ?_⟩
  rw [List.length_map, hl] at hj
  rw [Nat.add_assoc, hc (f + j) (by omega)]
  have e1 : f + j < xs.length := by omega
  simp [List.getD, hj, e1]

theorem cells_old {w : World} {ad : Addr} {xs : List Value} (o : Obj) (h : ∀ j u, xs[j]? = some u → w.cell? (ad.add j) = some u) : ∀ j u, xs[j]? = some u → (w.alloc o).cell? (ad.add j) = some u := by
  intro j u hu
  have := h j u hu
  rw [World.cell?_alloc_lt _ _ _ (World.block_lt_of_cell? _ _ this)]; exact this
theorem fl_one (xs : List Nat) : ∀ u ∈ xs.map fl, u.oneCell' = true := by
  intro u hu; obtain ⟨_, _, rfl⟩ := List.mem_map.1 hu; rfl
theorem cells_fl (w : World) (x : Nat) (e : Nat) : ∀ j u, ([fl x] : List Value)[j]? = some u → (w.alloc (.cells #[fl x] e)).cell? ((⟨w.heap.size, 0, none⟩ : Addr).add j) = some u := by
  intro j u hu
  cases j with
  | zero => simp at hu; subst hu; rw [Addr.add_lit]; simp
  | succ j => simp at hu
theorem of_snoc {w1 : World} {B : Nat} {v' : Value} {zs : List Nat} {x : Nat} (h : w1.ownsRow B 36 1 v' (zs.length + 1) (zs.map fl ++ [fl x])) : Of w1 B v' (zs ++ [x]) := by
  unfold Of; rw [List.length_append, List.map_append]; exact h
theorem own_nilrow (w : World) : (w.alloc (.cells #[] 36)).ownsRow w.heap.size 36 1 (.slice (some ⟨w.heap.size, 0, none⟩) 0 0) 0 [] := World.ownsRow_made w #[] 0 (Nat.le_refl _) (by unfold maxLen; omega) rfl

set_option maxRecDepth 100000 in
set_option maxHeartbeats 400000 in
theorem cloneF_any (v : Value) (xs : List Nat) (w : World) (hR : Rf w v xs) (hlen : xs.length ≤ 1048576) :
    Calls Try.prog 128 #[v] w fun e w' => ∃ r, e = .returned r ∧ Of w' w.heap.size r xs ∧ Below w.heap.size w w' := by
  obtain ⟨i0, hi, hz0, hz1, hz2⟩ := info_parts info36
  rcases hR.addr with ⟨c, rfl, rfl⟩ | ⟨ad, c, rfl, hc⟩
  · have heq := fun wx => Lib.run_eql_slice_nil (P := Try.prog) wx 22 36 none 0 c 0 0 Try.underlying22
    go_enter Try.func128, Try.ntmps128
    go_wp2
    go_ret
    exact ⟨_, rfl, World.ownsRow_nil _ _ _ _, Below.refl _ _⟩
  · have heq := fun wx => Lib.run_eql_slice_nil (P := Try.prog) wx 22 36 (some ad) xs.length c 0 0 Try.underlying22
    have HC := Lib.hid hc
    clear hc
    go_enter Try.func128, Try.ntmps128
    go_wp2_with (at_builtin; refine wpList_append_own _ rfl _ _ 22 rfl w.heap.size 36 i0 (.float .f32 0) 1 4 Try.underlying22 hi hz0 hz1 hz2 rfl (by decide) _ 0 [] rfl (own_nilrow w) ad xs.length c (xs.map fl) rfl (by simp) (cells_old _ HC.out) (fl_one xs) (by unfold maxLen; omega) (by omega) (by simp) ?_; intro v' w1 hown1 hgrow1 _)
    go_ret
    refine ⟨_, rfl, ?_, ((Below.refl _ _).alloc (Nat.le_refl _) _).grown hgrow1 (by simp) (fun k hk => by cases hk; exact Nat.le_refl _)⟩
    simpa [Of] using hown1

set_option maxRecDepth 100000 in
set_option maxHeartbeats 400000 in
theorem partI_no (v : Value) (xs : List Nat) (f t : Int) (w : World) (hR : Rf w v xs) (hlen : xs.length ≤ 1048576) (hb : lineB xs = false) :
    Calls Try.prog 94 #[v, .int .i64 f, .int .i64 t] w fun e w' => ∃ r, e = .returned r ∧ Of w' w.heap.size r [] ∧ Below w.heap.size w w' := by
  have HB := Lib.hid hb
  clear hb
  go_enter Try.func94, Try.ntmps94
  go_wp2_with (go_at_call 32; refine (lineI_any _ _ false _ hR hlen HB.out).mono ?_; rintro e w' ⟨rfl, rfl⟩)
  go_ret
  exact ⟨_, rfl, World.ownsRow_nil _ _ _ _, Below.refl _ _⟩

set_option maxRecDepth 100000 in
set_option maxHeartbeats 400000 in
theorem partI_yes (v : Value) (xs : List Nat) (f t : Nat) (w : World) (hR : Rf w v xs) (hlen : xs.length ≤ 1048576) (hb : lineB xs = true) (hft : f < t) (ht : t ≤ xs.length) :
    Calls Try.prog 94 #[v, .int .i64 f, .int .i64 t] w fun e w' => ∃ r, e = .returned r ∧ Of w' w.heap.size r ((xs.drop f).take (t - f)) ∧ Below w.heap.size w w' := by
  have HB := Lib.hid hb
  have HR := Lib.hid hR
  clear hb
  rcases hR.split with ⟨o, c, rfl, rfl⟩ | ⟨b, off, cap, rfl, h1, h2, hc⟩
  · simp at ht; omega
  · have HS := Lib.hid (Rf.sub (f := f) (t := t) (by omega) ht h1 h2 hc)
    have hcf : ¬ cap = f := by omega
    clear hc hR
    go_enter Try.func94, Try.ntmps94
    go_wp2_with (first | (go_at_call 32; refine (lineI_any _ _ true _ HR.out hlen HB.out).mono ?_; rintro e w' ⟨rfl, rfl⟩) | (go_at_call 128; refine (cloneF_any _ _ _ HS.out (by simp; omega)).mono ?_; rintro e w1 ⟨r, rfl, hO, hb1⟩))
    go_ret
    exact ⟨_, rfl, hO, hb1⟩

set_option maxRecDepth 100000 in
set_option maxHeartbeats 400000 in
theorem partS_no (v : Value) (xs : List Nat) (f t : Int) (w : World) (hR : Rf w v xs) (hlen : xs.length ≤ 1048576) (hb : lineB xs = false) :
    Calls Try.prog 93 #[v, .int .i64 f, .int .i64 t] w fun e w' => ∃ r, e = .returned r ∧ Of w' w.heap.size r [] ∧ Below w.heap.size w w' := by
  have HB := Lib.hid hb
  clear hb
  go_enter Try.func93, Try.ntmps93
  go_wp2_with (go_at_call 31; refine (lineS_any _ _ false _ hR hlen HB.out).mono ?_; rintro e w' ⟨rfl, rfl⟩)
  go_ret
  exact ⟨_, rfl, own_nilrow w, (Below.refl _ _).alloc (Nat.le_refl _) _⟩

set_option maxRecDepth 100000 in
set_option maxHeartbeats 400000 in
theorem partS_yes (v : Value) (xs : List Nat) (f t : Nat) (w : World) (hR : Rf w v xs) (hlen : xs.length ≤ 1048576) (hb : lineB xs = true) (hft : f < t) (ht : t ≤ xs.length) :
    Calls Try.prog 93 #[v, .int .i64 f, .int .i64 t] w fun e w' => ∃ r, e = .returned r ∧ Of w' w.heap.size r ((xs.drop f).take (t - f)) ∧ Below w.heap.size w w' := by
  obtain ⟨i0, hi, hz0, hz1, hz2⟩ := info_parts info36
  have HB := Lib.hid hb
  have HR := Lib.hid hR
  clear hb
  rcases hR.split with ⟨o, c, rfl, rfl⟩ | ⟨b, off, cap, rfl, h1, h2, hc⟩
  · simp at ht; omega
  · have hS := Rf.sub (f := f) (t := t) (by omega) ht h1 h2 hc
    have hl : ((xs.drop f).take (t - f)).length = t - f := by simp; omega
    have hcs : ∀ j u, (((xs.drop f).take (t - f)).map fl)[j]? = some u → w.cell? ((⟨b, off + f, none⟩ : Addr).add j) = some u := by
      rcases hS.addr with ⟨c, h, _⟩ | ⟨ad, c, h, h'⟩
      · simp at h
      · simp only [Value.slice.injEq, Option.some.injEq] at h
        obtain ⟨rfl, _, _⟩ := h
        exact h'
    generalize (xs.drop f).take (t - f) = ys at *
    have HC := Lib.hid hcs
    have HL := Lib.hid hl
    have hcf : ¬ cap = f := by omega
    clear hc hR hS hl hcs
    go_enter Try.func93, Try.ntmps93
    go_wp2_with (first | (go_at_call 31; refine (lineS_any _ _ true _ HR.out hlen HB.out).mono ?_; rintro e w' ⟨rfl, rfl⟩) | (at_builtin; refine wpList_append_own _ rfl _ _ 22 rfl w.heap.size 36 i0 (.float .f32 0) 1 4 Try.underlying22 hi hz0 hz1 hz2 rfl (by decide) _ 0 [] rfl (own_nilrow w) ⟨b, off + f, none⟩ (t - f) _ (ys.map fl) rfl (by rw [List.length_map, HL.out]; omega) (cells_old _ HC.out) (fl_one ys) (by unfold maxLen; omega) (by omega) (by simp) ?_; intro v' w1 hown1 hgrow1 _))
    go_ret
    refine ⟨_, rfl, ?_, ((Below.refl _ _).alloc (Nat.le_refl _) _).grown hgrow1 (by simp) (fun k hk => by cases hk; exact Nat.le_refl _)⟩
    unfold Of
    rw [HL.out]
    simpa using hown1

end Go.Proofs.Ytbjllfnjecggfaa
