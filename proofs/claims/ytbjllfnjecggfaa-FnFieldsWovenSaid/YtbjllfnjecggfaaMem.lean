/- Words for memory: a slice of singles that reads as a list; a row of the call's own; what a step keeps. -/
import Derived.Test.YtbjllfnjecggfaaRows
import Derived.Test.YtbjllfnjecggfaaFb
import Derived.WalkKit
import Derived.WalkSpells
import Derived.WalkLawsBesides
import Derived.Lib.Hide
import Derived.BigQuiet
import Derived.Deep.QuietTactic
import Derived.Deep.RegionWith
import Derived.Deep.DeepFit
import Derived.Deep.RegionLaw
namespace Go.Proofs.Ytbjllfnjecggfaa
open Go.RowKit

abbrev fl (b : Nat) : Value := .float .f32 b

/-- 'v' is a slice whose elements, each of one cell, read as 'xs' -/
def Rv (w : World) (v : Value) (xs : List Value) : Prop :=
  (∃ o cap, v = .slice o 0 cap ∧ xs = []) ∨
  ∃ b off cap, v = .slice (some ⟨b, off, none⟩) xs.length cap ∧ xs.length ≤ cap ∧ cap ≤ maxLen ∧ ∀ j, j < xs.length → w.cell? ⟨b, off + j, none⟩ = some (xs.getD j undef)

theorem Rv.below {w w' : World} {v : Value} {xs : List Value} (h : Rv w v xs) (hb : Below w.heap.size w w') : Rv w' v xs := by
  rcases h with h | ⟨b, off, cap, h1, h2, h3, h4⟩
  · exact .inl h
  · refine .inr ⟨b, off, cap, h1, h2, h3, fun j hj => ?_⟩
    have := h4 j hj
    rw [hb.cell (p := ⟨b, off + j, none⟩) (World.block_lt_of_cell? _ _ this)]; exact this

/-- a row of one-cell elements of the call's own -/
abbrev Own (w : World) (B e : Nat) (v : Value) (xs : List Value) : Prop := w.ownsRow B e 1 v xs.length xs

theorem Own.rv {w : World} {B e : Nat} {v : Value} {xs : List Value} (h : Own w B e v xs) : Rv w v xs := by
  rcases h.2 with ⟨rfl, h0⟩ | ⟨g, cap, cur, rfl, _, hg, hn, hm, _, ht⟩
  · exact .inl ⟨_, _, rfl, List.eq_nil_of_length_eq_zero h0⟩
  · refine .inr ⟨g, 0, cap, rfl, hn, hm, fun j hj => ?_⟩
    have := h.cells (g := g) rfl j (xs.getD j undef) (by simp [List.getD, hj])
    rw [Addr.add_lit] at this
    exact this

/-- what a step keeps: every block but those of 'S' -/
structure Only (S : Nat → Prop) (w w' : World) : Prop where
  os : w'.os = w.os
  tape : w'.tape = w.tape
  output : w'.output = w.output
  size : w.heap.size ≤ w'.heap.size
  block : ∀ k, k < w.heap.size → ¬ S k → w'.heap[k]? = w.heap[k]?

theorem Only.of_below {B : Nat} {w w' : World} (h : Below B w w') : Only (fun k => B ≤ k) w w' := ⟨h.os, h.tape, h.output, h.size, fun k _ hn => h.block k (by omega)⟩
theorem below_of_only {B : Nat} {S : Nat → Prop} {w w' : World} (h : Only S w w') (hB : B ≤ w.heap.size) (hS : ∀ k, S k → B ≤ k) : Below B w w' :=
  ⟨h.os, h.tape, h.output, h.size, fun k hk => h.block k (by omega) (fun hs => by have := hS k hs; omega)⟩
theorem Only.kept {S : Nat → Prop} {w w' : World} (h : Only S w w') {B e size : Nat} {v : Value} {n : Nat} {xs : List Value} (ho : w.ownsRow B e size v n xs) (hne : ∀ k, v.ownBlock = some k → ¬ S k) : w'.ownsRow B e size v n xs := by
  refine ⟨ho.1, ?_⟩
  rcases ho.2 with hn | ⟨g, cap, cur, rfl, hb, hgg, rest⟩
  · exact .inl hn
  · refine .inr ⟨g, cap, cur, rfl, hb, ?_, rest⟩
    rw [h.block g (Array.getElem?_eq_some_iff.1 hgg).1 (hne g rfl)]
    exact hgg
theorem own_below {w w' : World} {B e size : Nat} {v : Value} {n : Nat} {xs : List Value} (ho : w.ownsRow B e size v n xs) (hb : Below w.heap.size w w') : w'.ownsRow B e size v n xs :=
  (Only.of_below hb).kept ho fun k hk => by have := (ho.lt k hk).2; omega
theorem own_base {w : World} {B B' e size : Nat} {v : Value} {n : Nat} {xs : List Value} (ho : w.ownsRow B e size v n xs) (hb : B' ≤ B) : w.ownsRow B' e size v n xs := by
  refine ⟨ho.1, ?_⟩
  rcases ho.2 with hn | ⟨g, cap, cur, rfl, hb', rest⟩
  · exact .inl hn
  · exact .inr ⟨g, cap, cur, rfl, by omega, rest⟩

theorem info36 : (Try.prog.info? 36).map (fun i => (i.zero, i.size, i.bytes)) = some (some (.float .f32 0), 1, 4) := by kernel_rfl

/-- append to a row of the call's own, as one step of a region that draws its order -/
theorem step_append_own {P : Program} {ops : Array Oper} {o : Oper} {a : Act} {w : World} {K : Act → World → Prop} {Q : Exit → Act → World → Prop} {E : Prop} (hg : o.guard = none) (s x : Operand) (t : TypeId)
    (ho : o.op = .call { callee := .builtin .append, args := #[s, x], argTypes := #[t, t] })
    (base : Nat) (e : TypeId) (i : TypeInfo) (z : Value) (size bytes : Nat) (ht : P.underlying t = some (.slice e)) (hi : P.info? e = some i) (hz : i.zero = some z)
    (hsize : i.size = size) (hby : i.bytes = bytes) (hzs : z.cells.size = size) (hsz : 0 < size)
    (v : Value) (n : Nat) (xs : List Value) (hs : a.eval s = v) (hown : w.ownsRow base e size v n xs)
    (ad : Addr) (m c : Nat) (news : List Value) (hx : a.eval x = .slice (some ad) m c) (hl : news.length = m * size) (hnews : ∀ j u, news[j]? = some u → w.cell? (ad.add j) = some u) (h1 : ∀ u ∈ news, u.oneCell' = true)
    (h63 : n + m ≤ maxLen) (hbytes : (n + m) * bytes ≤ 140737488355328) (hbase : base ≤ w.heap.size)
    (h : ∀ v' w', w'.ownsRow base e size v' (n + m) (xs ++ news) → w.grownBy w' v.ownBlock → K (a.put o.dst v') w') : if Region.wanted o (yielded ops a.tmps) = true then Oper.wp P o a w K Q else E := by
  have hw : Region.wanted o (yielded ops a.tmps) = true := by simp [Region.wanted, hg]
  rw [if_pos hw]
  exact wp_append_own w s x t ho base e i z size bytes ht hi hz hsize hby hzs hsz v n xs hs hown ad m c news hx hl hnews h1 h63 hbytes hbase fun v' w' h2 h3 _ => h v' w' h2 h3

/-- a slice of singles that reads as 'zs' -/
def Rf (w : World) (v : Value) (zs : List Nat) : Prop := Rv w v (zs.map fl)
theorem Rf.split {w : World} {v : Value} {zs : List Nat} (h : Rf w v zs) : (∃ o cap, v = .slice o 0 cap ∧ zs = []) ∨
    ∃ b off cap, v = .slice (some ⟨b, off, none⟩) zs.length cap ∧ zs.length ≤ cap ∧ cap ≤ maxLen ∧ ∀ j, j < zs.length → w.cell? ⟨b, off + j, none⟩ = some (.float .f32 (zs.getD j 0)) := by
  rcases h with ⟨o, c, h1, h2⟩ | ⟨b, off, cap, h1, h2, h3, h4⟩
  · exact .inl ⟨o, c, h1, List.map_eq_nil_iff.1 h2⟩
  · rw [List.length_map] at h1 h2
    refine .inr ⟨b, off, cap, h1, h2, h3, fun j hj => ?_⟩
    rw [h4 j (by rw [List.length_map]; exact hj)]
    simp [List.getD, hj]
theorem Rf.below {w w' : World} {v : Value} {zs : List Nat} (h : Rf w v zs) (hb : Below w.heap.size w w') : Rf w' v zs := Rv.below h hb
/-- a row of singles of the call's own -/
def Of (w : World) (B : Nat) (v : Value) (zs : List Nat) : Prop := w.ownsRow B 36 1 v zs.length (zs.map fl)
theorem Of.rf {w : World} {B : Nat} {v : Value} {zs : List Nat} (h : Of w B v zs) : Rf w v zs :=
  Own.rv (B := B) (e := 36) (by unfold Own; rw [List.length_map]; exact h)

theorem getD_take_succ (zs : List Nat) (k : Nat) (h : k < zs.length) : zs.take (k + 1) = zs.take k ++ [zs.getD k 0] := by
  rw [List.take_add_one, List.getElem?_eq_getElem h]; simp [List.getD, h]

theorem Only.refl (S : Nat → Prop) (w : World) : Only S w w := ⟨rfl, rfl, rfl, Nat.le_refl _, fun _ _ _ => rfl⟩
theorem Only.trans {S : Nat → Prop} {a b c : World} (h : Only S a b) (k : Only S b c) : Only S a c :=
  ⟨k.os.trans h.os, k.tape.trans h.tape, k.output.trans h.output, Nat.le_trans h.size k.size, fun j hj hs => (k.block j (Nat.lt_of_lt_of_le hj h.size) hs).trans (h.block j hj hs)⟩
theorem Only.setCell {S : Nat → Prop} {a w : World} (h : Only S a w) {p : Addr} (hp : S p.block) (u : Value) : Only S a (w.setCell p u) :=
  h.trans ⟨rfl, rfl, rfl, by simp, fun k _ hs => Below.heap_setCell w p u k (fun e => hs (e ▸ hp))⟩
theorem Only.drewN {S : Nat → Prop} {a w : World} (h : Only S a w) (n : Nat) : Only S a (w.drewN n) := h.trans ⟨rfl, rfl, rfl, Nat.le_refl _, fun _ _ _ => rfl⟩


theorem Rf.len {w : World} {a : Option Addr} {n c : Nat} {zs : List Nat} (h : Rf w (.slice a n c) zs) : n = zs.length := by
  rcases h.split with ⟨o', c', h1, h2⟩ | ⟨b, off, cap, h1, _⟩
  · cases h1; rw [h2]; rfl
  · cases h1; rfl

/-- where a row of the call's own lies -/
def At (v : Value) (lo hi : Nat) : Prop := ∀ k, v.ownBlock = some k → lo ≤ k ∧ k < hi
theorem At.of {w w' : World} {e size : Nat} {v : Value} {n : Nat} {xs : List Value} (h : w'.ownsRow w.heap.size e size v n xs) : At v w.heap.size w'.heap.size := fun k hk => h.lt k hk
theorem At.ofF {w w' : World} {v : Value} {zs : List Nat} (h : Of w' w.heap.size v zs) : At v w.heap.size w'.heap.size := At.of h
theorem Of.below {w w' : World} {B : Nat} {v : Value} {zs : List Nat} (h : Of w B v zs) (hb : Below w.heap.size w w') : Of w' B v zs := own_below h hb
theorem Of.only {w w' : World} {B : Nat} {u v : Value} {zs : List Nat} (h : Of w B v zs) (ho : Only (fun j => u.ownBlock = some j) w w') {a b c d : Nat} (hu : At u a b) (hv : At v c d) (hd : b ≤ c ∨ d ≤ a) : Of w' B v zs :=
  ho.kept h fun k hk e => by have h1 := hu k e; have h2 := hv k hk; omega
theorem below_mark {B : Nat} {w w1 w2 : World} {u : Value} (h : Below B w w1) (ho : Only (fun j => u.ownBlock = some j) w1 w2) {a b : Nat} (hu : At u a b) (hd : B ≤ a ∧ B ≤ w1.heap.size) : Below B w w2 :=
  h.trans (below_of_only ho hd.2 fun k hk => by have := hu k hk; omega)
/-- what came in lies below 'B' -/
def Rb (B : Nat) (w : World) (v : Value) (zs : List Nat) : Prop := Rf w v zs ∧ ∀ b off l c, v = .slice (some ⟨b, off, none⟩) l c → zs ≠ [] → b < B
theorem Rb.of {w : World} {v : Value} {zs : List Nat} (h : Rf w v zs) : Rb w.heap.size w v zs := by
  refine ⟨h, fun b off l c e hne => ?_⟩
  rcases h.split with ⟨o', c', _, h2⟩ | ⟨b', off', cap, h1, _, _, h4⟩
  · exact absurd h2 hne
  · rw [h1] at e
    cases e
    exact World.block_lt_of_cell? _ _ (h4 0 (List.length_pos_iff.2 hne))
theorem Rb.below {B : Nat} {w w' : World} {v : Value} {zs : List Nat} (h : Rb B w v zs) (hb : Below w.heap.size w w') : Rb B w' v zs := ⟨h.1.below hb, h.2⟩
theorem Rb.mark {B : Nat} {w w' : World} {u v : Value} {zs : List Nat} (h : Rb B w v zs) (ho : Only (fun j => u.ownBlock = some j) w w') {a b : Nat} (hu : At u a b) (hd : B ≤ a) : Rb B w' v zs := by
  refine ⟨?_, h.2⟩
  rcases h.1 with h1 | ⟨b', off', cap, h1, h2, h3, h4⟩
  · exact .inl h1
  · refine .inr ⟨b', off', cap, h1, h2, h3, fun j hj => ?_⟩
    have hc := h4 j hj
    have hb := h.2 b' off' _ _ h1 (by intro e; rw [e] at hj; simp at hj)
    rw [World.cell?_of_block (w := w) (w' := w') (a := ⟨b', off' + j, none⟩) (ho.block b' (World.block_lt_of_cell? _ _ hc) (fun e => by have := hu b' e; omega))]
    exact hc

end Go.Proofs.Ytbjllfnjecggfaa
