/- What the layers share: leases, records, a configuration, as plain data. -/
import Derived.Test.YtmdaacajdnbegaaDoorDLoop
namespace Go.Dm
open Go
def Fit (s : Str) : Prop := s.length < 4294967281
structure Lease where
  host : Int
  state : Int
  client : Str
  till : Int
  name : Str
  won : Bool
  deriving DecidableEq, Inhabited
def Lease.cells (l : Lease) : List V := [.i .i64 l.host, .i .i64 l.state, .s l.client, .i .i64 l.till, .s l.name, .b l.won]
theorem Lease.cells_len (l : Lease) : l.cells.length = 6 := rfl
def Lease.Ok (l : Lease) : Prop := l.client.length < 4294967281 ∧ l.name.length < 4294967281
theorem PtrTo.lease {h : Heap} {nx : Nat} {p : V} {l : Lease} (hp : PtrTo h nx p l.cells) : ∃ id off rw ty cs, p = .p id off ∧ id < nx ∧ h id = some (.arr rw ty cs) ∧
    cut cs off 6 = some [.i .i64 l.host, .i .i64 l.state, .s l.client, .i .i64 l.till, .s l.name, .b l.won] ∧ cs[off]? = some (.i .i64 l.host) ∧ cs[off + 1]? = some (.i .i64 l.state) ∧ cs[off + 2]? = some (.s l.client) ∧ cs[off + 3]? = some (.i .i64 l.till) ∧ cs[off + 4]? = some (.s l.name) ∧ cs[off + 5]? = some (.b l.won) := by
  obtain ⟨id, off, rw_, ty, cs, rfl, hid, hb, hc⟩ := hp
  have hg : ∀ k, k < 6 → cs[off + k]? = l.cells[k]? := fun k hk => cut_at hc hk
  exact ⟨id, off, rw_, ty, cs, rfl, hid, hb, hc, hg 0 (by omega), hg 1 (by omega), hg 2 (by omega), hg 3 (by omega), hg 4 (by omega), hg 5 (by omega)⟩
structure RR where
  name : Str
  typ : Int
  ttl : Int
  addr : Int
  target : Str
  text : Str
  serial : Int
  deriving DecidableEq, Inhabited
def RR.cells (r : RR) : List V := [.s r.name, .i .i64 r.typ, .i .i64 r.ttl, .i .i64 r.addr, .s r.target, .s r.text, .i .i64 r.serial]
theorem RR.cells_len (r : RR) : r.cells.length = 7 := rfl
def RR.Ok (r : RR) : Prop := r.name.length < 4294967281 ∧ r.target.length < 4294967281 ∧ r.text.length < 4294967281
theorem PtrTo.rr {h : Heap} {nx : Nat} {p : V} {l : RR} (hp : PtrTo h nx p l.cells) : ∃ id off rw ty cs, p = .p id off ∧ id < nx ∧ h id = some (.arr rw ty cs) ∧
    cut cs off 7 = some [.s l.name, .i .i64 l.typ, .i .i64 l.ttl, .i .i64 l.addr, .s l.target, .s l.text, .i .i64 l.serial] ∧ cs[off]? = some (.s l.name) ∧ cs[off + 1]? = some (.i .i64 l.typ) ∧ cs[off + 2]? = some (.i .i64 l.ttl) ∧ cs[off + 3]? = some (.i .i64 l.addr) ∧ cs[off + 4]? = some (.s l.target) ∧ cs[off + 5]? = some (.s l.text) ∧ cs[off + 6]? = some (.i .i64 l.serial) := by
  obtain ⟨id, off, rw_, ty, cs, rfl, hid, hb, hc⟩ := hp
  have hg : ∀ k, k < 7 → cs[off + k]? = l.cells[k]? := fun k hk => cut_at hc hk
  exact ⟨id, off, rw_, ty, cs, rfl, hid, hb, hc, hg 0 (by omega), hg 1 (by omega), hg 2 (by omega), hg 3 (by omega), hg 4 (by omega), hg 5 (by omega), hg 6 (by omega)⟩
structure Reserve where
  client : Str
  host : Int
  deriving DecidableEq, Inhabited
def Reserve.cells (r : Reserve) : List V := [.s r.client, .i .i64 r.host]
theorem Reserve.cells_len (r : Reserve) : r.cells.length = 2 := rfl
structure Config where
  first : Int
  last : Int
  excluded : List Int
  reserved : List Reserve
  time : Int
  zone : Str
  static : List RR
  deriving DecidableEq, Inhabited
def intCells (n : Int) : List V := [.i .i64 n]
theorem intCells_len (n : Int) : (intCells n).length = 1 := rfl
/-- A configuration's cells, its slices at hand. -/
def Config.cells (c : Config) (e r s : V) : List V := [.i .i64 c.first, .i .i64 c.last, e, r, .i .i64 c.time, .s c.zone, s]
structure Config.At (c : Config) (h : Heap) (nx : Nat) (e r s : V) : Prop where
  e : Sl intCells 1 h nx e c.excluded
  r : Sl Reserve.cells 2 h nx r c.reserved
  s : Sl RR.cells 7 h nx s c.static
theorem Config.At.mono {c : Config} {h h' : Heap} {nx nx' : Nat} {e r s : V} (a : c.At h nx e r s) (hk : ∀ j, j < nx → h' j = h j) (hn : nx ≤ nx') : c.At h' nx' e r s := ⟨a.e.mono hk hn, a.r.mono hk hn, a.s.mono hk hn⟩
structure Config.Ok (c : Config) : Prop where
  zone : c.zone.length < 1048577
  e : c.excluded.length < 1048577
  r : c.reserved.length < 1048577
  s : c.static.length < 1048577
  rs : ∀ r ∈ c.static, r.Ok
  rr : ∀ r ∈ c.reserved, r.client.length < 4294967281
theorem PtrTo.config {h : Heap} {nx : Nat} {p e r s : V} {c : Config} (hp : PtrTo h nx p (c.cells e r s)) : ∃ id off rw ty cs, p = .p id off ∧ id < nx ∧ h id = some (.arr rw ty cs) ∧
    cut cs off 7 = some [.i .i64 c.first, .i .i64 c.last, e, r, .i .i64 c.time, .s c.zone, s] ∧ cs[off]? = some (.i .i64 c.first) ∧ cs[off + 1]? = some (.i .i64 c.last) ∧ cs[off + 2]? = some e ∧ cs[off + 3]? = some r ∧ cs[off + 4]? = some (.i .i64 c.time) ∧ cs[off + 5]? = some (.s c.zone) ∧ cs[off + 6]? = some s := by
  obtain ⟨id, off, rw_, ty, cs, rfl, hid, hb, hc⟩ := hp
  have hg : ∀ k, k < 7 → cs[off + k]? = (c.cells e r s)[k]? := fun k hk => cut_at hc hk
  exact ⟨id, off, rw_, ty, cs, rfl, hid, hb, hc, hg 0 (by omega), hg 1 (by omega), hg 2 (by omega), hg 3 (by omega), hg 4 (by omega), hg 5 (by omega), hg 6 (by omega)⟩
theorem ptr_new {h : Heap} {nx ty : Nat} {cells : List V} : PtrTo (h.set nx (some (.arr true ty cells))) (nx + 1) (.p nx 0) cells := ⟨nx, 0, true, ty, cells, rfl, by omega, Heap.set_same _ _ _, cut_all _⟩
end Go.Dm
