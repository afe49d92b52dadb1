/- Walks: encoded, EncodeCells, the program's. -/
import Derived.Test.YtbjllfnjecggfaaGh
import Derived.Test.YtbjllfnjecggfaaTv
import Derived.Test.YtbjllfnjecggfaaAp
namespace Go.Proofs.Ytbjllfnjecggfaa
open Go.RowKit

/-- a sample of a cell -/
def smp (c : CV) (n : Nat) : Nat := Fl.sm c.1 (crd c.2.1 c.2.2 n)
def encC (c : CV) : List Nat := [smp c 0, smp c 1, smp c 2, smp c 3]
def oddC (odd : Bool) (c : CV) : CV := if odd then conjC c else c
def encL (l : List CV) (odd : Bool) : List Nat := l.flatMap fun c => encC (oddC odd c)
theorem encC_succ (c : CV) {n : Nat} (h : n < 4) : (encC c).take (n + 1) = (encC c).take n ++ [smp c n] := by
  match n with
  | 0 | 1 | 2 | 3 => rfl
  | n + 4 => omega
theorem encL_succ (l : List CV) (odd : Bool) {j : Nat} (h : j < l.length) : encL (l.take (j + 1)) odd = encL (l.take j) odd ++ encC (oddC odd (l.getD j c0)) := by
  unfold encL
  rw [getDC_take_succ l j h, List.flatMap_append]
  simp
theorem encL_len (l : List CV) (odd : Bool) : (encL l odd).length = 4 * l.length := by
  unfold encL
  induction l with
  | nil => rfl
  | cons c l ih => rw [List.flatMap_cons, List.length_append, ih, List.length_cons]; show 4 + _ = _; omega
theorem inRng_crd {a b : Nat} (ha : Fl.inRng 1132462080 a = true) (hb : Fl.inRng 1132462080 b = true) (m : Int) : Fl.inRng 1132462080 (crd a b m) = true := by
  unfold crd
  split
  · exact Fl.inRng_neg' hb
  · split
    · exact Fl.inRng_neg' ha
    · split
      · exact hb
      · exact ha
set_option maxRecDepth 100000 in
set_option maxHeartbeats 1000000 in
theorem encoded_any (v : Value) (l : List CV) (odd : Bool) (w : World) (hR : Rc w v l) (h : rowB l = true) :
    Calls Try.prog 98 #[v, .bool odd] w fun e w' => ∃ r, e = .returned r ∧ Of w' w.heap.size r (encL l odd) ∧ Below w.heap.size w w' := by
  obtain ⟨i0, hi, hz0, hz1, hz2⟩ := info_parts info36
  obtain ⟨n1, n2⟩ := rowB_len h
  rcases hR with ⟨o, c, rfl, e⟩ | ⟨b, off, cap, rfl, h1, h2, hc⟩
  · subst e; simp at n1
  have HC := Lib.hid hc
  have HB := Lib.hid h
  clear hc h
  go_enter Try.func98, Try.ntmps98
  go_wp2
  go_loopw [5, 7, 8, 9, 12] (fun o _ _ _ i wr => ∃ (j : Nat) (zs : List Nat), j ≤ l.length ∧ i = .int .i64 j ∧ Hid (zs = encL (l.take j) odd) ∧ Of wr w.heap.size o zs ∧ Below w.heap.size w wr) (fun _ _ _ _ i _ => l.length - (intOf i).toNat)
  case atStart => exact ⟨0, [], Nat.zero_le _, rfl, Lib.hid rfl, World.ownsRow_nil _ _ _ _, Below.refl _ _⟩
  case round =>
    obtain ⟨j, zs, hj, rfl, hz, hown, hbw⟩ := hrel
    rename World => wo
    have hbs := hbw.size
    by_cases hlt : j < l.length
    · obtain ⟨d1, d2⟩ := HC.out j hlt
      rw [← hbw.cell (p := ⟨b, off + j * 2, none⟩) (World.block_lt_of_cell? _ _ d1)] at d1
      rw [← hbw.cell (p := ⟨b, off + j * 2 + 1, none⟩) (World.block_lt_of_cell? _ _ d2)] at d2
      obtain ⟨p1, p2, p3⟩ := cellB_parts (rowB_at HB.out hlt)
      have hes := Lib.hid (encL_succ l odd hlt)
      have hzl : zs.length = 4 * j := by rw [hz.out, encL_len]; simp; omega
      generalize l.getD j c0 = x at *
      obtain ⟨y, re, im⟩ := x
      dsimp only at d1 d2 p1 p2 p3
      have P1 := Lib.hid p1
      have P2 := Lib.hid p2
      have P3 := Lib.hid p3
      have hne : ∀ q, u5.ownBlock = some q → q ≠ wo.heap.size := fun q hq => by have := (hown.lt q hq).2; omega
      have HN := Lib.hid hne
      have hown' := Lib.hid (hown.below ((Below.refl _ _).alloc (Nat.le_refl _) (.cells #[.float .f32 y, .complex .f32 re im] 48)))
      have hbx := Lib.hid (hbw.alloc hbs (.cells #[.float .f32 y, .complex .f32 re im] 48))
      clear p1 p2 p3 hne
      obtain ⟨im', him'⟩ : ∃ q, (if odd = true then Op.negFloat .f32 im else im) = q := ⟨_, rfl⟩
      have hoc : Hid (oddC odd (y, re, im) = (y, re, im')) := Lib.hid (by unfold oddC conjC; rw [← him']; cases odd <;> rfl)
      have P4 : Hid (Fl.inRng 1132462080 im' = true) := Lib.hid (by rw [← him']; split; exact Fl.inRng_neg' P3.out; exact P3.out)
      cases odd
      · simp only [Bool.false_eq_true, if_false] at him'
        subst him'
        go_wp2
        go_loopw [5, 9] (fun o i wr => ∃ (n : Nat) (ys : List Nat), n ≤ 4 ∧ i = .int .i64 n ∧ Hid (ys = zs ++ (encC (y, re, im)).take n) ∧ Hid (Of wr w.heap.size o ys) ∧ Hid (∀ q, o.ownBlock = some q → q ≠ wo.heap.size) ∧ wr.cell? ⟨wo.heap.size, 0, none⟩ = some (.float .f32 y) ∧ wo.heap.size < wr.heap.size ∧ Hid (Below w.heap.size w wr)) (fun _ i _ => 4 - (intOf i).toNat)
        case atStart => exact ⟨0, zs, by omega, rfl, Lib.hid (by simp), hown', HN, by simp, by simp, hbx⟩
        case round =>
          obtain ⟨n, ys, hn4, rfl, hys, ho, hq, hx, hxs, hbi⟩ := hrel
          have hyl : ys.length ≤ 260 := by
            have h1 := congrArg List.length hys.out
            rw [List.length_append, List.length_take] at h1
            have h2 : (encC (y, re, im)).length = 4 := rfl
            omega
          have hbis := hbi.out.size
          by_cases hn : n < 4
          · obtain ⟨p, hp⟩ : ∃ p, crd re im ((n : Int) % 4) = p := ⟨_, rfl⟩
            have hnn : (n : Int) % 4 = (n : Int) := by omega
            have hrp : Fl.inRng 1132462080 p = true := by rw [← hp]; exact inRng_crd P2.out P4.out _
            have hsm : Hid (smp (y, re, im) n = Fl.sm y p) := Lib.hid (by rw [← hp, hnn]; rfl)
            obtain ⟨f1, _⟩ := Fl.hv_parts P1.out hrp
            have HP := Lib.hid hp
            have e1 : ∀ w, Fl.fbits w .add .f32 y p = Fl.sm y p := fun w => Fl.fbits_some f1
            have c1 := Fl.fcnt_some f1
            clear f1 hrp hnn hp
            go_wp2
            refine wp_region_move_tail 6 (Operand.tmp 5) (by kernel_rfl) (by kernel_rfl) rfl rfl rfl (fun _ _ _ h => h) ?_
            simp only [List.take_succ_cons, List.take_zero, List.drop_succ_cons, List.drop_zero]
            repeat (first | still_step | still_call (calls_still (carried_to re im n p _ HP)))
            refine wpStill_step (fun K hK => ?_)
            go_simp
            refine ⟨rfl, hK _ ?_⟩
            clear hK K
            refine wpStill_nil ?_
            change wpList _ _ _ _ _ wr.drew
            refine wpList_step (fun K hK => ?_)
            go_simp
            refine hK _ _ ?_
            clear hK K
            (refine wpList_append_at _ rfl _ _ 22 rfl w.heap.size 36 i0 (.float .f32 0) 1 4 Try.underlying22 hi hz0 hz1 hz2 rfl (by decide) _ ys.length (ys.map fl) rfl (own_below ho.out ((Below.refl _ _).drew.alloc (Nat.le_refl _) _)) _ 1 1 [fl (Fl.sm y p)] rfl rfl (cells_fl _ _ _) (by simp [Value.oneCell']) (by unfold maxLen; omega) (by omega) (by simp; omega) (by omega) ?_; intro v' w5 hown5 hgrow5 hat5)
            have hgrow5 : (wr.drew.alloc (.cells #[fl (Fl.sm y p)] 36)).grownBy w5 u5.ownBlock := hgrow5
            have hw5 := hgrow5.size
            simp only [World.size_alloc] at hw5
            have hw5' : wr.heap.size + 1 ≤ w5.heap.size := hw5
            have hx5 : w5.cell? ⟨wo.heap.size, 0, none⟩ = some (.float .f32 y) := by
              have hbk : w5.heap[wo.heap.size]? = wr.heap[wo.heap.size]? := by
                rw [hgrow5.block _ (by simp only [World.size_alloc]; show wo.heap.size < wr.heap.size + 1; omega) (fun e => hq.out _ e.symm rfl), Below.heap_alloc _ _ _ (show wo.heap.size < wr.drew.heap.size from hxs)]
                rfl
              rw [World.cell?_of_block (w := wr) (w' := w5) (a := ⟨wo.heap.size, 0, none⟩) hbk]
              exact hx
            have hne5 : Hid (∀ q, v'.ownBlock = some q → q ≠ wo.heap.size) := Lib.hid fun q hq' => by
              rcases hat5 q hq' with h | h
              · exact hq.out q h
              · have : wr.heap.size + 1 ≤ q := by simpa using h
                omega
            have hb5 : Hid (Below w.heap.size w w5) := Lib.hid (Below.grown (hbi.out.drew.alloc (by simpa using hbis) _) hgrow5 (by simp; omega) (fun k hk => ((Of.below ho.out (Below.refl _ _)).lt k hk).1))
            have ho5 := Lib.hid (of_snoc hown5)
            clear hown5 hgrow5 hat5
            go_wp2
            go_roundw
            case rel => exact ⟨n + 1, ys ++ [Fl.sm y p], by omega, by go_num, Lib.hid (by rw [encC_succ _ hn, hsm.out, hys.out, List.append_assoc]), ho5, hne5, hx5, by omega, hb5⟩
            case measure => simp [intOf]; omega
          · have hne4 : n = 4 := by omega
            subst hne4
            have hfin : Hid (ys = encL (l.take (j + 1)) false) := Lib.hid (by rw [hes.out, hoc.out, ← hz.out, hys.out]; rfl)
            have hO := ho.out
            have hBi := hbi.out
            go_wp2
            go_roundw
            case rel => exact ⟨j + 1, ys, by omega, by go_num, hfin, hO, hBi⟩
            case measure => simp [intOf]; omega
      · simp only [if_true] at him'
        go_wp2_with (go_at_call 106; refine (conj_any _ _ _).mono ?_; rintro e w3 ⟨rfl, rfl⟩)
        try rw [him']
        have HIM := Lib.hid him'
        clear him'
        go_loopw [5, 9] (fun o i wr => ∃ (n : Nat) (ys : List Nat), n ≤ 4 ∧ i = .int .i64 n ∧ Hid (ys = zs ++ (encC (y, re, im')).take n) ∧ Hid (Of wr w.heap.size o ys) ∧ Hid (∀ q, o.ownBlock = some q → q ≠ wo.heap.size) ∧ wr.cell? ⟨wo.heap.size, 0, none⟩ = some (.float .f32 y) ∧ wo.heap.size < wr.heap.size ∧ Hid (Below w.heap.size w wr)) (fun _ i _ => 4 - (intOf i).toNat)
        case atStart => exact ⟨0, zs, by omega, rfl, Lib.hid (by simp), hown', HN, by simp, by simp, hbx⟩
        case round =>
          obtain ⟨n, ys, hn4, rfl, hys, ho, hq, hx, hxs, hbi⟩ := hrel
          have hyl : ys.length ≤ 260 := by
            have h1 := congrArg List.length hys.out
            rw [List.length_append, List.length_take] at h1
            have h2 : (encC (y, re, im')).length = 4 := rfl
            omega
          have hbis := hbi.out.size
          by_cases hn : n < 4
          · obtain ⟨p, hp⟩ : ∃ p, crd re im' ((n : Int) % 4) = p := ⟨_, rfl⟩
            have hnn : (n : Int) % 4 = (n : Int) := by omega
            have hrp : Fl.inRng 1132462080 p = true := by rw [← hp]; exact inRng_crd P2.out P4.out _
            have hsm : Hid (smp (y, re, im') n = Fl.sm y p) := Lib.hid (by rw [← hp, hnn]; rfl)
            obtain ⟨f1, _⟩ := Fl.hv_parts P1.out hrp
            have HP := Lib.hid hp
            have e1 : ∀ w, Fl.fbits w .add .f32 y p = Fl.sm y p := fun w => Fl.fbits_some f1
            have c1 := Fl.fcnt_some f1
            clear f1 hrp hnn hp
            go_wp2
            refine wp_region_move_tail 6 (Operand.tmp 5) (by kernel_rfl) (by kernel_rfl) rfl rfl rfl (fun _ _ _ h => h) ?_
            simp only [List.take_succ_cons, List.take_zero, List.drop_succ_cons, List.drop_zero]
            repeat (first | still_step | still_call (calls_still (carried_to re im' n p _ HP)))
            refine wpStill_step (fun K hK => ?_)
            go_simp
            refine ⟨rfl, hK _ ?_⟩
            clear hK K
            refine wpStill_nil ?_
            change wpList _ _ _ _ _ wr.drew
            refine wpList_step (fun K hK => ?_)
            go_simp
            refine hK _ _ ?_
            clear hK K
            (refine wpList_append_at _ rfl _ _ 22 rfl w.heap.size 36 i0 (.float .f32 0) 1 4 Try.underlying22 hi hz0 hz1 hz2 rfl (by decide) _ ys.length (ys.map fl) rfl (own_below ho.out ((Below.refl _ _).drew.alloc (Nat.le_refl _) _)) _ 1 1 [fl (Fl.sm y p)] rfl rfl (cells_fl _ _ _) (by simp [Value.oneCell']) (by unfold maxLen; omega) (by omega) (by simp; omega) (by omega) ?_; intro v' w5 hown5 hgrow5 hat5)
            have hgrow5 : (wr.drew.alloc (.cells #[fl (Fl.sm y p)] 36)).grownBy w5 u5.ownBlock := hgrow5
            have hw5 := hgrow5.size
            simp only [World.size_alloc] at hw5
            have hw5' : wr.heap.size + 1 ≤ w5.heap.size := hw5
            have hx5 : w5.cell? ⟨wo.heap.size, 0, none⟩ = some (.float .f32 y) := by
              have hbk : w5.heap[wo.heap.size]? = wr.heap[wo.heap.size]? := by
                rw [hgrow5.block _ (by simp only [World.size_alloc]; show wo.heap.size < wr.heap.size + 1; omega) (fun e => hq.out _ e.symm rfl), Below.heap_alloc _ _ _ (show wo.heap.size < wr.drew.heap.size from hxs)]
                rfl
              rw [World.cell?_of_block (w := wr) (w' := w5) (a := ⟨wo.heap.size, 0, none⟩) hbk]
              exact hx
            have hne5 : Hid (∀ q, v'.ownBlock = some q → q ≠ wo.heap.size) := Lib.hid fun q hq' => by
              rcases hat5 q hq' with h | h
              · exact hq.out q h
              · have : wr.heap.size + 1 ≤ q := by simpa using h
                omega
            have hb5 : Hid (Below w.heap.size w w5) := Lib.hid (Below.grown (hbi.out.drew.alloc (by simpa using hbis) _) hgrow5 (by simp; omega) (fun k hk => ((Of.below ho.out (Below.refl _ _)).lt k hk).1))
            have ho5 := Lib.hid (of_snoc hown5)
            clear hown5 hgrow5 hat5
            go_wp2
            go_roundw
            case rel => exact ⟨n + 1, ys ++ [Fl.sm y p], by omega, by go_num, Lib.hid (by rw [encC_succ _ hn, hsm.out, hys.out, List.append_assoc]), ho5, hne5, hx5, by omega, hb5⟩
            case measure => simp [intOf]; omega
          · have hne4 : n = 4 := by omega
            subst hne4
            have hfin : Hid (ys = encL (l.take (j + 1)) true) := Lib.hid (by rw [hes.out, hoc.out, ← hz.out, hys.out]; rfl)
            have hO := ho.out
            have hBi := hbi.out
            go_wp2
            go_roundw
            case rel => exact ⟨j + 1, ys, by omega, by go_num, hfin, hO, hBi⟩
            case measure => simp [intOf]; omega
    · have hje : j = l.length := by omega
      subst hje
      have HF : Hid (zs = encL l odd) := Lib.hid (by rw [hz.out, List.take_of_length_le (Nat.le_refl _)])
      go_wp2
      go_ret
      exact ⟨_, rfl, by rw [← HF.out]; exact hown, hbw⟩
def EnPost (w : World) (q : Bool) (l : List CV) (odd : Bool) (e : Ending) (w' : World) : Prop :=
  ∃ r, e = .returned r ∧ Of w' w.heap.size r (if q = true then encL l odd else []) ∧ Below w.heap.size w w'
set_option maxHeartbeats 400000 in
theorem enc_any (v : Value) (l : List CV) (odd : Bool) (q : Bool) (w : World) (hR : Rc w v l) (hlen : l.length ≤ 1048576) (h : rowB l = q) :
    Calls Try.prog 48 #[v, .bool odd] w (EnPost w q l odd) := by
  have HQ := Lib.hid h
  have HR := Lib.hid hR
  clear h hR
  cases q
  · go_enter Try.func48, Try.ntmps48
    go_wp2_with fail
    refine (rowI_any v l false w HR.out hlen HQ.out).mono ?_
    rintro e w1 ⟨rfl, hb1⟩
    go_wp2
    go_ret
    exact ⟨_, rfl, World.ownsRow_nil _ _ _ _, hb1⟩
  · go_enter Try.func48, Try.ntmps48
    go_wp2_with fail
    refine (rowI_any v l true w HR.out hlen HQ.out).mono ?_
    rintro e w1 ⟨rfl, hb1⟩
    have HR1 := Lib.hid (HR.out.below hb1)
    go_wp2_with fail
    refine (encoded_any v l odd w1 HR1.out HQ.out).mono ?_
    rintro e w2 ⟨r, rfl, hO, hb2⟩
    have hO' : Hid (Of w2 w.heap.size r (encL l odd)) := Lib.hid (own_base hO hb1.size)
    have hb := hb1.trans (hb2.mono hb1.size)
    clear hO hb1 hb2
    go_wp2
    go_ret
    exact ⟨_, rfl, hO'.out, hb⟩
end Go.Proofs.Ytbjllfnjecggfaa
