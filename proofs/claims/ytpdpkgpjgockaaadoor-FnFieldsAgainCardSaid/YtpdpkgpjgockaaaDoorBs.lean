/- Words for memory: a row of bytes of the call's own, read as a string. -/
import Derived.Test.YtpdpkgpjgockaaaDoorOn
import Derived.Laws.BytesArg
import Derived.Lib.UnsafeStr
import Derived.StillTailTactics
namespace Go.Proofs.YtpdpkgpjgockaaaDoor
open Go.RowKit

theorem nums_bytes (l : List UInt8) : strOfNums (l.map fun b => (b.toNat : Int)) = ⟨l.toArray⟩ := by
  unfold strOfNums
  congr 1
  rw [List.map_map]
  congr 1
  conv => rhs; rw [← List.map_id l]
  refine List.map_congr_left fun b _ => ?_
  simp
/-- a row of bytes of the call's own -/
def Ob (w : World) (B : Nat) (v : Value) (l : List UInt8) : Prop := w.ownsRow B 5 1 v l.length (Lib.byteCells l)
theorem info5 : (Tryd.prog.info? 5).map (fun i => (i.zero, i.size, i.bytes)) = some (some (.int .u8 0), 1, 1) := by kernel_rfl
theorem Ob.form {w : World} {B : Nat} {v : Value} {l : List UInt8} (h : Ob w B v l) : ∃ a c, v = .slice a l.length c := by
  rcases h.2 with ⟨hv, h0⟩ | ⟨g, cap, cur, hv, _⟩
  · exact ⟨none, 0, by rw [hv, h0]⟩
  · exact ⟨_, _, hv⟩
theorem Ob.string {w : World} {B : Nat} {v : Value} {l : List UInt8} (h : Ob w B v l) : (convert 22 9 v).run Tryd.prog w = .ok (.string ⟨l.toArray⟩) w := by
  rcases h.2 with ⟨hv, h0⟩ | ⟨g, cap, cur, hv, _, hg, hn, _, hcs, ht⟩
  · have hl : l = [] := List.eq_nil_of_length_eq_zero h0
    subst hl hv
    exact run_convert_bytes_nil w _ 5 Tryd.underlying22 Tryd.underlying5 0 0 _ Tryd.underlying9
  · subst hv
    rw [run_convert_bytes_arg w _ 5 Tryd.underlying22 Tryd.underlying5 g 0 l.length cap (l.map fun b => (b.toNat : Int)) (by simp) (fun i hi => ?_) _ Tryd.underlying9, nums_bytes]
    have := h.cells (g := g) rfl i (.int .u8 (l.getD i 0).toNat) (by simp [Lib.byteCells, List.getD, hi])
    rw [Addr.add_lit] at this
    first | rw [this] | (rw [Nat.zero_add] at this ⊢; rw [this]) | (rw [Nat.zero_add] at this; rw [this])
    simp [List.getD, hi]
theorem ob_snoc2 {w : World} {B : Nat} {v : Value} {l : List UInt8} {a b : UInt8} (h : w.ownsRow B 5 1 v (l.length + 2) (Lib.byteCells l ++ [.int .u8 a.toNat, .int .u8 b.toNat])) : Ob w B v (l ++ [a, b]) := by
  unfold Ob
  have e : Lib.byteCells (l ++ [a, b]) = Lib.byteCells l ++ [.int .u8 a.toNat, .int .u8 b.toNat] := by simp [Lib.byteCells]
  rw [e, List.length_append]; exact h
theorem ob_snoc {w : World} {B : Nat} {v : Value} {l : List UInt8} {a : UInt8} (h : w.ownsRow B 5 1 v (l.length + 1) (Lib.byteCells l ++ [.int .u8 a.toNat])) : Ob w B v (l ++ [a]) := by
  unfold Ob
  have e : Lib.byteCells (l ++ [a]) = Lib.byteCells l ++ [.int .u8 a.toNat] := by simp [Lib.byteCells]
  rw [e, List.length_append]; exact h
theorem ob_nil (w : World) : Ob (w.alloc (.cells #[] 5)) w.heap.size (.slice (some ⟨w.heap.size, 0, none⟩) 0 0) [] := World.ownsRow_made w #[] 0 (Nat.le_refl _) (by unfold maxLen; omega) rfl
theorem byte_cells2 (w : World) (a b : Int) (e : Nat) : ∀ j u, ([.int .u8 a, .int .u8 b] : List Value)[j]? = some u → (w.alloc (.cells #[.int .u8 a, .int .u8 b] e)).cell? ((⟨w.heap.size, 0, none⟩ : Addr).add j) = some u := by
  intro j u hu
  match j with
  | 0 | 1 => simp at hu; subst hu; rw [Addr.add_lit]; simp
  | n + 2 => simp at hu
theorem byte_cells1 (w : World) (a : Int) (e : Nat) : ∀ j u, ([.int .u8 a] : List Value)[j]? = some u → (w.alloc (.cells #[.int .u8 a] e)).cell? ((⟨w.heap.size, 0, none⟩ : Addr).add j) = some u := by
  intro j u hu
  match j with
  | 0 => simp at hu; subst hu; rw [Addr.add_lit]; simp
  | n + 1 => simp at hu
/-- append to a row of the call's own, as one step of a region that draws its order -/
theorem step_append_own {P : Program} {ops : Array Oper} {o : Oper} {a : Act} {w : World} {K : Act → World → Prop} {Q : Exit → Act → World → Prop} {E : Prop} (hg : o.guard = none) (s x : Operand) (t : TypeId)
    (ho : o.op = .call { callee := .builtin .append, args := #[s, x], argTypes := #[t, t] })
    (base : Nat) (e : TypeId) (i : TypeInfo) (z : Value) (size bytes : Nat) (ht : P.underlying t = some (.slice e)) (hi : P.info? e = some i) (hz : i.zero = some z)
    (hsize : i.size = size) (hby : i.bytes = bytes) (hzs : z.cells.size = size) (hsz : 0 < size)
    (v : Value) (n : Nat) (xs : List Value) (hs : a.eval s = v) (hown : w.ownsRow base e size v n xs)
    (ad : Addr) (m c : Nat) (news : List Value) (hx : a.eval x = .slice (some ad) m c) (hl : news.length = m * size) (hnews : ∀ j u, news[j]? = some u → w.cell? (ad.add j) = some u) (h1 : ∀ u ∈ news, u.oneCell' = true)
    (h63 : n + m ≤ maxLen) (hbytes : (n + m) * bytes ≤ 140737488355328) (hbase : base ≤ w.heap.size)
    (h : ∀ v' w', w'.ownsRow base e size v' (n + m) (xs ++ news) → w.grownBy w' v.ownBlock → K (a.put o.dst v') w') : if Region.wanted o (yielded ops a.tmps) = true then Oper.wp P o a w K Q else E := by
  have hw : Region.wanted o (yielded ops a.tmps) = true := by simp [Region.wanted, hg]
  rw [if_pos hw]
  exact wp_append_own w s x t ho base e i z size bytes ht hi hz hsize hby hzs hsz v n xs hs hown ad m c news hx hl hnews h1 h63 hbytes hbase fun v' w' h2 h3 _ => h v' w' h2 h3

theorem take_snoc (s : ByteArray) (k : Nat) (h : k < s.size) : s.data.toList.take (k + 1) = s.data.toList.take k ++ [s[k]] := by
  rw [List.take_succ_eq_append_getElem (by simpa using h)]; rfl
theorem take_all (s : ByteArray) (k : Nat) (h : k = s.size) : s.data.toList.take k = s.data.toList := List.take_of_length_le (by subst h; simp)
end Go.Proofs.YtpdpkgpjgockaaaDoor
