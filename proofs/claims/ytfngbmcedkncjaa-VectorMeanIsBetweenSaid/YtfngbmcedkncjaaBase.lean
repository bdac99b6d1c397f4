/- What all walks of this seat import. -/
import Derived.Test.YtfngbmcedkncjaaProg
import Derived.Below
import Derived.Deep.Draws
import Derived.Deep.AppendLies
import Derived.Maps.AppendAt
import Derived.OwnWalk
import Derived.Laws.BytesArg
import Derived.Laws.MakeOwn
import Derived.Laws.OwnMore
import Derived.Deep.OwnRows
import Derived.Tactics
import Derived.Lib.ConvBytes
import Derived.Lib.Hide
import Derived.Laws.Slices
import Derived.WalkKit
import Derived.WalkSpells
import Derived.WalkLawsBesides
import Derived.KernelRfl
import Derived.RowKit3
import Derived.Deep.LoopGhost
import Derived.Deep.QuietTactic
import Derived.BigQuiet
import Derived.WideLaws
import Derived.Deep.DeepCutAuto
import Derived.Deep.CutBlock
import Derived.Deep.RegionHeld3
import Derived.Laws.Rows
import Derived.Lib.AppendStr
import Derived.ArgAppend
import Derived.Laws.IdiomCopy
import Derived.OrdersHeld
import Derived.Laws.BitsLemmas
import Derived.RowKit
import Derived.Outline
import Derived.Test.YtfngbmcedkncjaaWWords
import Derived.Test.YtfngbmcedkncjaaWLast
import Derived.Test.YtfngbmcedkncjaaWTab
import Derived.Test.YtfngbmcedkncjaaWFour
import Derived.Test.YtfngbmcedkncjaaWQPut
import Derived.Test.YtfngbmcedkncjaaWApart
import Derived.Test.YtfngbmcedkncjaaWArr
import Derived.Test.YtfngbmcedkncjaaWZeros
import Derived.Test.YtfngbmcedkncjaaWFoot
import Derived.Test.YtfngbmcedkncjaaWKept
import Derived.Test.YtfngbmcedkncjaaWShare
import Derived.Test.YtfngbmcedkncjaaWN
import Derived.Test.YtfngbmcedkncjaaWFootNe
import Derived.Test.YtfngbmcedkncjaaWAt
import Derived.Test.YtfngbmcedkncjaaWEqStruct
import Derived.Test.YtfngbmcedkncjaaWRepsOne
import Derived.Test.YtfngbmcedkncjaaWInv
import Derived.Test.YtfngbmcedkncjaaWInvWords
import Derived.Test.YtfngbmcedkncjaaWGuard
import Derived.Test.YtfngbmcedkncjaaWNEv
import Derived.Test.YtfngbmcedkncjaaWMore
import Derived.Test.YtfngbmcedkncjaaBits
namespace Go.Proofs.Ytfngbmcedkncjaa
open Go.RowKit Go.Proofs.YtfngbmcedkncjaaW.PrintWords Go.Proofs.YtfngbmcedkncjaaW.PrintLast Go.Proofs.YtfngbmcedkncjaaW.PrintMore
set_option linter.unusedVariables false
theorem info5 : (Try.prog.info? 5).map (fun i => (i.zero, i.size, i.bytes)) = some (some (.int .u8 0), 1, 1) := by kernel_rfl
theorem info3 : (Try.prog.info? 3).map (fun i => (i.zero, i.size, i.bytes)) = some (some (.int .i64 0), 1, 8) := by kernel_rfl
theorem info9 : (Try.prog.info? 9).map (fun i => (i.zero, i.size, i.bytes)) = some (some (.string ⟨#[]⟩), 1, 16) := by kernel_rfl

/-- A slice type t of elements e, each of sz cells and so many bytes. -/
structure Ty (sz : Nat) (t e : TypeId) (z : Value) (bytes : Nat) : Prop where
  ht : Try.prog.underlying t = some (.slice e)
  hinfo : (Try.prog.info? e).map (fun i => (i.zero, i.size, i.bytes)) = some (some z, sz, bytes)
  hz : z.cells.size = sz
  hs : 0 < sz
  hb : 0 < bytes
theorem ty_u8 : Ty 1 28 5 (.int .u8 0) 1 := ⟨Try.underlying28, info5, rfl, by decide, by decide⟩
theorem ty_int : Ty 1 22 3 (.int .i64 0) 8 := ⟨Try.underlying22, info3, rfl, by decide, by decide⟩
theorem ty_str : Ty 1 23 9 (.string ⟨#[]⟩) 16 := ⟨Try.underlying23, info9, rfl, by decide, by decide⟩

/-- A row of the call's own: made from block B on. -/
def Own {α : Type} (d : Kd α) (e : Nat) (B : Nat) (w : World) (v : Value) (xs : List α) : Prop := Aside0 (Kd.R d e w B (fun _ => True) v xs)
/-- Below B the world w' is as w was. -/
def Bel (B : Nat) (w w' : World) : Prop := Aside0 (Below B w w')
theorem Own.nil {α : Type} (d : Kd α) (e B : Nat) (w : World) : Own d e B w (.slice none 0 0) [] := ⟨Kd.R_nil _ _ _ _ _⟩
theorem Own.alloc {α : Type} {d : Kd α} {e B : Nat} {w : World} {v : Value} {xs : List α} (h : Own d e B w v xs) (o : Obj) : Own d e B (w.alloc o) v xs := ⟨Kd.R_below h.out ((Below.refl _ _).alloc (Nat.le_refl _) _)⟩
theorem Own.drewN {α : Type} {d : Kd α} {e B : Nat} {w : World} {v : Value} {xs : List α} (h : Own d e B w v xs) (n : Nat) : Own d e B (w.drewN n) v xs := ⟨Kd.R_below h.out (pw_below_drewN (Below.refl _ _) n)⟩
theorem Own.bel {α : Type} {d : Kd α} {e B : Nat} {w w1 : World} {v : Value} {xs : List α} (h : Own d e B w v xs) (hb : Bel w.heap.size w w1) : Own d e B w1 v xs := ⟨Kd.R_below h.out hb.out⟩
theorem Own.lower {α : Type} {d : Kd α} {e B B' : Nat} {w : World} {v : Value} {xs : List α} (h : Own d e B w v xs) (hb : B' ≤ B) : Own d e B' w v xs := ⟨Kd.R_lower h.out hb⟩
theorem Own.reads {α : Type} {d : Kd α} {e B : Nat} {w : World} {v : Value} {xs : List α} (h : Own d e B w v xs) : ∃ A c, v = .slice A xs.length c ∧ xs.length ≤ c ∧ d.C w A xs.length xs := Kd.R_reads h.out
theorem Bel.refl (w : World) : Bel w.heap.size w w := ⟨Below.refl _ _⟩
theorem Bel.size {B : Nat} {w w' : World} (h : Bel B w w') : w.heap.size ≤ w'.heap.size := h.out.size
theorem Bel.trans {w w1 w2 : World} (h : Bel w.heap.size w w1) (k : Bel w1.heap.size w1 w2) : Bel w.heap.size w w2 := ⟨below_then h.out h.size k.out⟩
theorem Bel.alloc {w w1 : World} (h : Bel w.heap.size w w1) (o : Obj) : Bel w.heap.size w (w1.alloc o) := ⟨h.out.alloc h.size o⟩
theorem Bel.drewN {B : Nat} {w w1 : World} (h : Bel B w w1) (n : Nat) : Bel B w (w1.drewN n) := ⟨pw_below_drewN h.out n⟩
theorem Bel.drawn {w w1 w2 : World} (h : Bel w.heap.size w w1) (k : Drawn0 w1 w2) : Bel w.heap.size w w2 := ⟨below_then h.out h.size k.below⟩

section
variable {α : Type} {ops : Array Oper} {rest : List Oper} {o : Oper} {a : Act} {Q : Exit → Act → World → Prop}
/-- append(v, p): behind 'at_builtin'. -/
theorem ap_one (d : Kd α) {w W : World} {t e : TypeId} {z : Value} {bytes : Nat} (T : Ty d.sz t e z bytes) {v : Value} {xs : List α}
    (HO : Own d e w.heap.size W v xs) (HB : Bel w.heap.size w W) (hl : (xs.length + 1) * bytes ≤ 140737488355328) (hgd : o.guard = none) {s x : Operand}
    (ho : o.op = .call { callee := .builtin .append, args := #[s, x], argTypes := #[t, t] }) {p : α} {cs : List Value}
    (hs : a.eval s = v) (hx : a.eval x = .slice (some ⟨W.heap.size, 0, none⟩) 1 1) (hp : d.M W w.heap.size (fun _ => False) p cs)
    (h : ∀ v1 w1, Own d e w.heap.size w1 v1 (xs ++ [p]) → Bel w.heap.size w w1 → wpList Try.prog ops Q rest (a.put o.dst v1) w1) :
    wpList Try.prog ops Q (o :: rest) a (W.alloc (.cells cs.toArray e)) :=
  Kd.R_append d (w0 := w) w.heap.size hgd s x t e z bytes ho T.ht T.hinfo T.hz T.hs T.hb v xs p cs (fun _ => True) (fun _ => False) hs hx hp (fun _ hk => hk.elim) (fun _ _ => trivial) HO.out HB.out HB.size hl
    fun v1 w1 h1 h2 _ _ => h v1 w1 ⟨h1⟩ ⟨h2⟩
/-- append(v, ys...) of elements of one cell. -/
theorem ap_row (enc : α → Value) (z0 : α) {h1 : ∀ x : α, (enc x).oneCell' = true} {w W : World} {t e : TypeId} {z : Value} {bytes : Nat} (T : Ty 1 t e z bytes) {v : Value} {xs ys : List α} {A : Option Addr} {m c : Nat}
    (HO : Own (Kd.scalar enc h1) e w.heap.size W v xs) (HB : Bel w.heap.size w W) (HR : (Kd.scalar enc h1).C W A m ys) (hl : (xs.length + m) * bytes ≤ 140737488355328) (hgd : o.guard = none) {s x : Operand}
    (ho : o.op = .call { callee := .builtin .append, args := #[s, x], argTypes := #[t, t] })
    (hs : a.eval s = v) (hx : a.eval x = .slice A m c)
    (h : ∀ v1 w1, Own (Kd.scalar enc h1) e w.heap.size w1 v1 (xs ++ ys) → Bel w.heap.size w w1 → wpList Try.prog ops Q rest (a.put o.dst v1) w1) :
    wpList Try.prog ops Q (o :: rest) a W :=
  Kd.R_append_row enc z0 (w0 := w) w.heap.size hgd s x t e z bytes ho T.ht T.hinfo T.hz T.hb v xs ys A m c (fun _ => True) hs hx (fun _ _ => trivial) HO.out HR HB.out HB.size hl
    fun v1 w1 h1 h2 _ _ => h v1 w1 ⟨h1⟩ ⟨h2⟩
/-- append(v, s...), s a string. -/
theorem ap_str {w W : World} {v : Value} {xs : List Int} {y : ByteArray} (HO : Own (Kd.int .u8) 5 w.heap.size W v xs) (HB : Bel w.heap.size w W) (hl : xs.length + y.size ≤ 140737488355328) (hgd : o.guard = none) {s x : Operand}
    (ho : o.op = .call { callee := .builtin .append, args := #[s, x], argTypes := #[28, 9] })
    (hs : a.eval s = v) (hx : a.eval x = .string y)
    (h : ∀ v1 w1, Own (Kd.int .u8) 5 w.heap.size w1 v1 (xs ++ bytesOf y) → Bel w.heap.size w w1 → wpList Try.prog ops Q rest (a.put o.dst v1) w1) :
    wpList Try.prog ops Q (o :: rest) a W :=
  print_append_str (w0 := w) w.heap.size hgd s x 28 9 5 ho Try.underlying28 Try.underlying9 info5 v xs y hs hx (Kd.own_of_R HO.out) HB.out HB.size hl
    fun v1 w1 h1 h2 _ => h v1 w1 ⟨Kd.R_of_own h1 (fun _ _ => trivial)⟩ ⟨h2⟩
end
end Go.Proofs.Ytfngbmcedkncjaa
