/- Decks in memory: borders, plates with what they hold, racks; what boxes may be. No condition. -/
import Derived.Test.YtfckciblnojniaaDoorRailA
import Derived.Test.YtfckciblnojniaaDoorSRow
import Derived.Test.YtfckciblnojniaaDoorAppI
import Derived.LoopTactic
namespace Go.Proofs.YtfckciblnojniaaDoor.Dk
open Go.ChangeShapes Go.WideShapes Go.ChangeAt Go.RowKit Go.Proofs.YtfckciblnojniaaDoor.Kit Go.Proofs.YtfckciblnojniaaDoor.Flt Go.Proofs.YtfckciblnojniaaDoor.Mem Go.Proofs.YtfckciblnojniaaDoor.Rail Go.Deep
set_option linter.unusedVariables false
set_option linter.unusedSimpArgs false
section
variable (P : Program) (w : World) (a : Addr) (m : Mode)
@[go_sem] theorem run_store_flt (k : FloatKind) (b : Nat) : (store a (.float k b) m).run P w = stored P w a (.float k b) m := run_store P w a _ m rfl
end
/-- A plate: rows, columns, three floats, what a well holds at most, and at first. -/
structure Plt where
  (r c : Int) (x y z : Nat) (cap : Int) (A : Option Addr) (k : Nat) (l : List Int)
structure Rck where
  (r c : Int) (x y z : Nat)
def encPl (p : Plt) : List Value := [.int .i64 p.r, .int .i64 p.c, .float .f64 p.x, .float .f64 p.y, .float .f64 p.z, .int .i64 p.cap, .slice p.A p.l.length p.k]
theorem encPl_len (p : Plt) : (encPl p).length = 7 := rfl
def encRk (p : Rck) : List Value := [.int .i64 p.r, .int .i64 p.c, .float .f64 p.x, .float .f64 p.y, .float .f64 p.z]
theorem encRk_len (p : Rck) : (encRk p).length = 5 := rfl
/-- A box: rows and columns. -/
abbrev Bx := Int × Int
def encB (b : Bx) : List Value := [.int .i64 b.1, .int .i64 b.2]
theorem encB_len (b : Bx) : (encB b).length = 2 := rfl
theorem encB_one (b : Bx) : ∀ u ∈ encB b, u.oneCell' = true := by intro u hu; simp only [encB, List.mem_cons, List.not_mem_nil, or_false] at hu; rcases hu with rfl | rfl <;> rfl
structure Dck where
  (bA : Option Addr) (bc : Nat) (bs : List Nat) (pA : Option Addr) (pc : Nat) (ps : List Plt) (rA : Option Addr) (rc : Nat) (rs : List Rck) (arms : Int)
def Dck.val (D : Dck) : Value := .agg #[.slice D.bA D.bs.length D.bc, .slice D.pA D.ps.length D.pc, .slice D.rA D.rs.length D.rc, .int .i64 D.arms]
/-- The deck lies below block B. -/
structure DeckI (w : World) (B0 : Nat) (D : Dck) : Prop where
  bs : FRow w B0 D.bA D.bs
  ps : SRow encPl 7 w B0 D.pA D.ps.length D.ps
  st : ∀ p ∈ D.ps, Ints w B0 p.A p.l.length p.l
  rs : SRow encRk 5 w B0 D.rA D.rs.length D.rs
theorem DeckI.below {w w' : World} {B0 B1 : Nat} {D : Dck} (h : DeckI w B0 D) (hb : Below B1 w w') (hB : B0 ≤ B1) : DeckI w' B0 D :=
  ⟨⟨row_below h.bs.row hb hB, h.bs.len, h.bs.fit⟩, srow_below h.ps hb hB, fun p hp => ints_below (h.st p hp) hb hB, srow_below h.rs hb hB⟩
theorem plt_cells {w : World} {B0 n : Nat} {A : Option Addr} {ps : List Plt} (h : SRow encPl 7 w B0 A n ps) (h0 : 0 < n) (d : Plt) : ∃ b off, A = some ⟨b, off, none⟩ ∧ b < B0 ∧ ∀ j, j < n →
    w.cell? ⟨b, off + j * 7, none⟩ = some (.int .i64 (ps.getD j d).r) ∧ w.cell? ⟨b, off + j * 7 + 1, none⟩ = some (.int .i64 (ps.getD j d).c) ∧ w.cell? ⟨b, off + j * 7 + 2, none⟩ = some (.float .f64 (ps.getD j d).x) ∧ w.cell? ⟨b, off + j * 7 + 3, none⟩ = some (.float .f64 (ps.getD j d).y) ∧
    w.cell? ⟨b, off + j * 7 + 4, none⟩ = some (.float .f64 (ps.getD j d).z) ∧ w.cell? ⟨b, off + j * 7 + 5, none⟩ = some (.int .i64 (ps.getD j d).cap) ∧ w.cell? ⟨b, off + j * 7 + 6, none⟩ = some (.slice (ps.getD j d).A (ps.getD j d).l.length (ps.getD j d).k) := by
  obtain ⟨b, off, rfl, hb, hc⟩ := h.cells encPl_len (by decide) d h0
  exact ⟨b, off, rfl, hb, fun j hj => ⟨hc j hj 0 (by decide), hc j hj 1 (by decide), hc j hj 2 (by decide), hc j hj 3 (by decide), hc j hj 4 (by decide), hc j hj 5 (by decide), hc j hj 6 (by decide)⟩⟩
theorem rck_cells {w : World} {B0 n : Nat} {A : Option Addr} {ps : List Rck} (h : SRow encRk 5 w B0 A n ps) (h0 : 0 < n) (d : Rck) : ∃ b off, A = some ⟨b, off, none⟩ ∧ b < B0 ∧ ∀ j, j < n →
    w.cell? ⟨b, off + j * 5, none⟩ = some (.int .i64 (ps.getD j d).r) ∧ w.cell? ⟨b, off + j * 5 + 1, none⟩ = some (.int .i64 (ps.getD j d).c) ∧ w.cell? ⟨b, off + j * 5 + 2, none⟩ = some (.float .f64 (ps.getD j d).x) ∧ w.cell? ⟨b, off + j * 5 + 3, none⟩ = some (.float .f64 (ps.getD j d).y) ∧
    w.cell? ⟨b, off + j * 5 + 4, none⟩ = some (.float .f64 (ps.getD j d).z) := by
  obtain ⟨b, off, rfl, hb, hc⟩ := h.cells encRk_len (by decide) d h0
  exact ⟨b, off, rfl, hb, fun j hj => ⟨hc j hj 0 (by decide), hc j hj 1 (by decide), hc j hj 2 (by decide), hc j hj 3 (by decide), hc j hj 4 (by decide)⟩⟩
theorem box_cells {w : World} {B0 n : Nat} {A : Option Addr} {ps : List Bx} (h : SRow encB 2 w B0 A n ps) (h0 : 0 < n) (d : Bx) : ∃ b off, A = some ⟨b, off, none⟩ ∧ b < B0 ∧ ∀ j, j < n →
    w.cell? ⟨b, off + j * 2, none⟩ = some (.int .i64 (ps.getD j d).1) ∧ w.cell? ⟨b, off + j * 2 + 1, none⟩ = some (.int .i64 (ps.getD j d).2) := by
  obtain ⟨b, off, rfl, hb, hc⟩ := h.cells encB_len (by decide) d h0
  exact ⟨b, off, rfl, hb, fun j hj => ⟨hc j hj 0 (by decide), hc j hj 1 (by decide)⟩⟩
def Plt.box (p : Plt) : Bx := (p.r, p.c)
def Rck.box (p : Rck) : Bx := (p.r, p.c)
end Go.Proofs.YtfckciblnojniaaDoor.Dk
