/- What an abstract value shows of objects, pages, records, logs, pools, engines. Nothing of a program is in it. -/
import Derived.Test.YtjaddgkhlmallaaIm20
import Derived.Test.YtjaddgkhlmallaaMd1
namespace Go.Proofs.Ytjaddgkhlmallaa.IM
open Go Go.RowKit
set_option linter.unusedVariables false

def IsObj (d : D) (o : Md.Obj) : Prop := IsS [1, 1, 1] (fun f => IsInt (f 0) o.kind ∧ IsL 1 IsInt (f 1) o.ints ∧ IsL 1 IsInt (f 2) o.refs) d
def IsSlot (d : D) (s : Md.Slot) : Prop := IsS [1, 3] (fun f => IsBool (f 0) s.has ∧ IsObj (f 1) s.o) d
def IsPage (d : D) (p : Md.Page) : Prop := IsS [1, 16] (fun f => IsInt (f 0) p.lsn ∧ IsA 4 4 IsSlot (f 1) p.slots) d
def IsLive (d : D) (x : Md.Live) : Prop := IsS [1, 1, 1] (fun f => IsInt (f 0) x.tx ∧ IsInt (f 1) x.last ∧ IsBool (f 2) x.aborts) d
def IsRec (d : D) (r : Md.Rec) : Prop := IsS [1, 1, 1, 1, 1, 4, 4, 1, 1] (fun f => IsInt (f 0) r.lsn ∧ IsInt (f 1) r.tx ∧ IsInt (f 2) r.prev ∧ IsInt (f 3) r.kind ∧ IsInt (f 4) r.oid ∧
  IsSlot (f 5) r.before ∧ IsSlot (f 6) r.after ∧ IsInt (f 7) r.next ∧ IsL 3 IsLive (f 8) r.txs) d
def IsLog (d : D) (l : Md.Log) : Prop := IsS [1, 1] (fun f => IsL 15 IsRec (f 0) l.recs ∧ IsInt (f 1) l.sure) d
def IsSeat (d : D) (s : Md.Seat) : Prop := IsS [1, 17, 1, 1] (fun f => IsInt (f 0) s.no ∧ IsPage (f 1) s.p ∧ IsBool (f 2) s.dirty ∧ IsBool (f 3) s.hot) d
def IsPool (d : D) (p : Md.Pool) : Prop := IsS [1, 1] (fun f => IsL 20 IsSeat (f 0) p.seats ∧ IsInt (f 1) p.hand) d
def IsHold (d : D) (x : Md.Hold) : Prop := IsS [1, 1] (fun f => IsInt (f 0) x.tx ∧ IsInt (f 1) x.oid) d
def IsEngine (d : D) (e : Md.Engine) : Prop := IsS [136, 2, 2, 1, 1, 1, 1] (fun f => IsA 8 17 IsPage (f 0) e.disk ∧ IsPool (f 1) e.pool ∧ IsLog (f 2) e.log ∧ IsL 3 IsLive (f 3) e.txs ∧
  IsL 2 IsHold (f 4) e.holds ∧ IsInt (f 5) e.next ∧ IsBool (f 6) e.down) d

theorem IsObj.still {d : D} {o : Md.Obj} (h : IsObj d o) : d.still := IsS.still h
theorem IsSlot.still {d : D} {o : Md.Slot} (h : IsSlot d o) : d.still := IsS.still h
theorem IsPage.still {d : D} {o : Md.Page} (h : IsPage d o) : d.still := IsS.still h
theorem IsLive.still {d : D} {o : Md.Live} (h : IsLive d o) : d.still := IsS.still h
theorem IsRec.still {d : D} {o : Md.Rec} (h : IsRec d o) : d.still := IsS.still h
theorem IsLog.still {d : D} {o : Md.Log} (h : IsLog d o) : d.still := IsS.still h
theorem IsSeat.still {d : D} {o : Md.Seat} (h : IsSeat d o) : d.still := IsS.still h
theorem IsPool.still {d : D} {o : Md.Pool} (h : IsPool d o) : d.still := IsS.still h
theorem IsHold.still {d : D} {o : Md.Hold} (h : IsHold d o) : d.still := IsS.still h
theorem IsEngine.still {d : D} {o : Md.Engine} (h : IsEngine d o) : d.still := IsS.still h

end Go.Proofs.Ytjaddgkhlmallaa.IM
