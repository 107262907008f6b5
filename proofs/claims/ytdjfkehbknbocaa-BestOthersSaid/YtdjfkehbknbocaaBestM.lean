/- What best.Map computes, said plainly; the two ways to it are one. -/
import Derived.Test.YtdjfkehbknbocaaSpoil
namespace Go.Proofs.Ytdjfkehbknbocaa
open Go.RowKit
set_option linter.unusedSimpArgs false
set_option linter.unusedVariables false

/-- A block with its pages. -/
structure Bl where
  b : Bk
  pages : List Pg
def eBl (x : Bl) : List Value := eBk x.b
def ePg (x : Pg) : List Value := [.int .i64 x.what, .int .i64 x.tag.kind, .int .i64 x.tag.lba, .int .i64 x.tag.seq, .int .i64 x.tag.epoch, .string x.data]
/-- Each block's pages lie where its slice says. -/
def Deep (w : World) (bs : List Bl) : Prop := ∀ x ∈ bs, Sl ePg 6 w x.b.p.A x.b.p.n x.pages
theorem Deep.below {w w' : World} {bs : List Bl} (h : Deep w bs) (hb : Below w.heap.size w w') : Deep w' bs := fun x hx => (h x hx).below hb
/-- One page comes up for sector lba. -/
def stepF (lbas : Int) (fl co : List Int) (lba : Int) (i : Nat) (mode : Int) (k : Nat) (p : Pg) (s : Ad × Tg) : Ad × Tg :=
  if (p.tag.lba == lba && (mayF lbas fl co i mode p && (decide (s.1.block < 0) || lessF s.2 p.tag))) = true then (addrF i mode k, p.tag) else s
/-- The first k pages of block i. -/
def pagesF (lbas : Int) (fl co : List Int) (lba : Int) (i : Nat) (mode : Int) (ps : List Pg) : Nat → Ad × Tg → Ad × Tg
  | 0, s => s
  | k + 1, s => match ps[k]? with
    | some p => stepF lbas fl co lba i mode k p (pagesF lbas fl co lba i mode ps k s)
    | none => pagesF lbas fl co lba i mode ps k s
/-- The first i blocks. -/
def blocksF (lbas : Int) (fl co : List Int) (lba : Int) (bs : List Bl) : Nat → Ad × Tg
  | 0 => (⟨-1, 0, 0⟩, ⟨0, 0, 0, 0⟩)
  | i + 1 => match bs[i]? with
    | some b => pagesF lbas fl co lba i b.b.mode b.pages b.pages.length (blocksF lbas fl co lba bs i)
    | none => blocksF lbas fl co lba bs i
def whereF (lbas : Int) (fl co : List Int) (bs : List Bl) (n : Nat) : List Ad := (List.range n).map fun (l : Nat) => (blocksF lbas fl co (l : Int) bs bs.length).1
def seqsF (lbas : Int) (fl co : List Int) (bs : List Bl) (n : Nat) : List Int := (List.range n).map fun (l : Nat) => (blocksF lbas fl co (l : Int) bs bs.length).2.seq
end Go.Proofs.Ytdjfkehbknbocaa
