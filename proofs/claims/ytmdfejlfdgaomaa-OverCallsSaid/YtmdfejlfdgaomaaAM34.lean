/- Rules of append and copy that look their cells up. -/
import Derived.Test.YtmdfejlfdgaomaaAM33
namespace Go.Proofs.YtmdfejlfdgaomaaAM
open Go Go.RowKit
set_option linter.unusedVariables false
set_option linter.unusedSimpArgs false

theorem lit_str {l : List UInt8} : Value.string ⟨l.toArray⟩ = .string (mkStr l) := hide rfl
theorem zero_bytes2 (n : Nat) : (List.replicate n [Value.int .u8 0]).flatten = (List.replicate n (0 : UInt8)).map u8 := zero_bytes n
theorem take_all {α : Type} {l : List α} {n : Nat} (h : l.length ≤ n) : l.take n = l := List.take_of_length_le h
def gOne {α : Type} (l : List Value) (r : Option α) : Option α := if l.all Value.oneCell' = true then r else none
theorem gOne_ok {α : Type} {l : List Value} {r : Option α} (h : l.all Value.oneCell' = true) : gOne l r = r := by simp [gOne, h]
theorem one_int {k n} : (Value.int k n).oneCell' = true := hide rfl
theorem one_bool {b} : (Value.bool b).oneCell' = true := hide rfl
theorem one_str {b} : (Value.string b).oneCell' = true := hide rfl
theorem one_float {k b} : (Value.float k b).oneCell' = true := hide rfl
theorem one_ptr {b} : (Value.pointer b).oneCell' = true := hide rfl
theorem one_slice {p n c} : (Value.slice p n c).oneCell' = true := hide rfl
theorem one_map {p} : (Value.map p).oneCell' = true := hide rfl
section
variable {E : Program} {G : Gives} {t : List Value} {a : AW}
theorem sliceCells_eq {z : Nat} {p : Addr} {n m : Nat} : sliceCells z (.slice (some p) n m) a = cellsAt (a.get p.block) p.off (n * z) := rfl
end
section
variable {E : Program} {G : Gives} {t : List Value} {a : AW} {K : Value → AW → Prop}
/-- A store, by what stands in the block. -/
def storeC (b : Option Blk) (p : Addr) (l : List Value) (a : AW) : Option AW := match b with
  | some (.cells c true) => if p.off + l.length ≤ c.length ∧ l.all Value.oneCell' = true then some (a.write p.block (.cells (c.take p.off ++ (l ++ c.drop (p.off + l.length))) true)) else none
  | _ => none
theorem storeVar_eq {ty : TypeId} {p : Addr} {v : Value} {n : Nat} (hs : typeSize E ty = some n) (hn : v.cells.toList.length = n) : storeVarA E ty p v a = storeC (a.get p.block) p v.cells.toList a := by
  unfold storeVarA AW.storeN storeC
  rw [hs]
  have : v.cells.size = n := by simpa using hn
  simp only [this, if_true]
  cases a.get p.block with
  | none => rfl
  | some b =>
    cases b with
    | obj o => rfl
    | cells c rw => cases rw <;> rfl
theorem storeC_ok {p : Addr} {l c : List Value} (h : p.off + l.length ≤ c.length) (ho : l.all Value.oneCell' = true) : storeC (some (.cells c true)) p l a = some (a.write p.block (.cells (c.take p.off ++ (l ++ c.drop (p.off + l.length))) true)) := by
  simp [storeC, h, ho]
theorem drop_all {α : Type} {l : List α} {n : Nat} (h : l.length ≤ n) : l.drop n = [] := List.drop_of_length_le h
/-- What a call answers, it answers whatever comes behind it. -/
theorem call_eq {f : FuncId} {args : List Value} {v : Value} {w : AW} (h : WCall E G f args a fun u b => u = v ∧ b = w) (K : Value → AW → Prop) : WCall E G f args a K = K v w := by
  obtain ⟨n, u, b, hc, rfl, rfl⟩ := h
  refine propext ⟨?_, fun hk => ⟨n, _, _, hc, hk⟩⟩
  rintro ⟨m, u', b', hc', hk⟩
  have h1 := call_mono (Nat.le_max_left n m) hc
  have h2 := call_mono (Nat.le_max_right n m) hc'
  rw [h1] at h2
  cases h2
  exact hk
/-- Append: enough that its answer by the cells is handed on. -/
theorem wp_append_nil {t0 t1 : TypeId} {z y : Nat} (hk : appOk E t0 t1 z = true) (hz : z + 1 = y) {q : Addr} {n cq : Nat} (h0 : 0 < n) (hl : n ≤ 1000000) {new : List Value} (hn : cellsAt (a.get q.block) q.off (n * z) = some new) (ho : new.all Value.oneCell' = true) :
    builtinA E .append #[t0, t1] [.slice none 0 0, .slice (some q) n cq] a = some (.slice (some ⟨a.next, 0, some y⟩) n n, a.new (.cells new true)) := by
  subst hz
  exact append_nil (cp := cq) hk rfl (sliceCells_eq.trans hn) h0 hl ho
theorem wp_append_grown {t0 t1 : TypeId} {z y : Nat} (hk : appOk E t0 t1 z = true) (hz : z + 1 = y) {b o : Nat} {q : Addr} {len cap n cq : Nat} (hc : cap < len + n) (hl : len + n ≤ 1000000) {was new : List Value}
    (hw : cellsAt (a.get b) o (len * z) = some was) (hn : cellsAt (a.get q.block) q.off (n * z) = some new) (ho : new.all Value.oneCell' = true) :
    builtinA E .append #[t0, t1] [.slice (some ⟨b, o, some y⟩) len cap, .slice (some q) n cq] a = some (.slice (some ⟨a.next, 0, some y⟩) (len + n) (len + n), (a.drop b).new (.cells (was ++ new) true)) := by
  subst hz
  exact append_grown hk rfl (sliceCells_eq.trans hn) rfl (sliceCells_eq.trans hw) hc hl ho
theorem wp_append_made {t0 t1 : TypeId} {z y : Nat} (hk : appOk E t0 t1 z = true) (hz : z + 1 = y) {b o : Nat} {q : Addr} {len cap n cq : Nat} (hc : cap < len + n) (hl : len + n ≤ 1000000) {was new : List Value}
    (hw : cellsAt (a.get b) o (len * z) = some was) (hn : cellsAt (a.get q.block) q.off (n * z) = some new) (ho : new.all Value.oneCell' = true) :
    builtinA E .append #[t0, t1] [.slice (some ⟨b, o, some 0⟩) len cap, .slice (some q) n cq] a = some (.slice (some ⟨a.next, 0, some y⟩) (len + n) (len + n), a.new (.cells (was ++ new) true)) := by
  subst hz
  exact append_made hk rfl (sliceCells_eq.trans hn) rfl (sliceCells_eq.trans hw) hc hl ho
end
end Go.Proofs.YtmdfejlfdgaomaaAM
