/- Part 20 of what the proof of OrderRoom rests on. No condition. -/
import Derived.Test.YtfedhcnmdmhppaaGreatPOrderRoom17
namespace Go.Proofs.YtfedhcnmdmhppaaGreat
set_option maxRecDepth 100000
set_option maxHeartbeats 60000000
set_option linter.unusedVariables false
set_option linter.unusedSimpArgs false
section
open Go.RowKit Go.Maps
structure StAt (vm vw ve vo vn : Value) (s : StM) (prb : List (BrM × Value)) (pro prn : List (PendM × Value)) (W : World) : Prop where
 ms : IsMsgs W vm s.ms
 cb : IsL (encPr (fun q : BrM => q.tid)) 2 W vw prb
 ib : ∀ p ∈ prb, IsPuts W p.2 p.1.puts
 en : IsEnds W ve s.ends
 co : IsL (encPr (fun q : PendM => q.tid)) 2 W vo pro
 io : ∀ p ∈ pro, IsInts W p.2 p.1.parts
 cn : IsL (encPr (fun q : PendM => q.tid)) 2 W vn prn
 inn : ∀ p ∈ prn, IsInts W p.2 p.1.parts
def StW (Al : World -> Prop) (v : Value) (s : StM) : Prop :=
 ∃ vm vw ve vo vn prb pro prn, v = .agg #[.int .i64 s.broker, .int .i64 s.nid, .int .i64 s.nseq, .int .i64 s.tx, vm, vw, ve, vo, vn] /\ prb.map Prod.fst = s.waits /\ pro.map Prod.fst = s.opens /\ prn.map Prod.fst = s.noes /\ ∀ W, Al W -> StAt vm vw ve vo vn s prb pro prn W
theorem StAt.keep {vm vw ve vo vn : Value} {s : StM} {prb : List (BrM × Value)} {pro prn : List (PendM × Value)} {W W' : World} (h : StAt vm vw ve vo vn s prb pro prn W) (t : Tch No W W') : StAt vm vw ve vo vn s prb pro prn W' :=
 ⟨h.ms.keep t, CellsAt.keep h.cb t, fun p hp => (h.ib p hp).keep t, h.en.keep t, CellsAt.keep h.co t, fun p hp => (h.io p hp).keep t, CellsAt.keep h.cn t, fun p hp => (h.inn p hp).keep t⟩
theorem StW.is {Al : World -> Prop} {v : Value} {s : StM} (h : StW Al v s) {W : World} (hW : Al W) : IsSt W v s := by
 obtain ⟨vm, vw, ve, vo, vn, prb, pro, prn, e, h1, h2, h3, h4⟩ := h
 have g := h4 W hW
 exact ⟨vm, vw, ve, vo, vn, e, g.ms, brs_pairs.2 ⟨prb, h1, g.cb, g.ib⟩, g.en, pends_pairs.2 ⟨pro, h2, g.co, g.io⟩, pends_pairs.2 ⟨prn, h3, g.cn, g.inn⟩⟩
theorem StW.mono {Al Al' : World -> Prop} {v : Value} {s : StM} (h : StW Al v s) (hA : ∀ W, Al' W -> Al W) : StW Al' v s := by
 obtain ⟨vm, vw, ve, vo, vn, prb, pro, prn, e, h1, h2, h3, h4⟩ := h
 exact ⟨vm, vw, ve, vo, vn, prb, pro, prn, e, h1, h2, h3, fun W hW => h4 W (hA W hW)⟩
theorem StW.of {v : Value} {s : StM} {w : World} (h : IsSt w v s) : StW (Tch No w) v s := by
 obtain ⟨vm, vw, ve, vo, vn, e, hm, hw, he, ho, hn⟩ := h
 obtain ⟨prb, h1, hcb, hib⟩ := brs_pairs.1 hw
 obtain ⟨pro, h2, hco, hio⟩ := pends_pairs.1 ho
 obtain ⟨prn, h3, hcn, hin⟩ := pends_pairs.1 hn
 exact ⟨vm, vw, ve, vo, vn, prb, pro, prn, e, h1, h2, h3, fun W t => ⟨hm.keep t, CellsAt.keep hcb t, fun p hp => (hib p hp).keep t, he.keep t, CellsAt.keep hco t, fun p hp => (hio p hp).keep t, CellsAt.keep hcn t, fun p hp => (hin p hp).keep t⟩⟩
theorem StW.none {Al : World -> Prop} {b n q t : Int} : StW Al (.agg #[.int .i64 b, .int .i64 n, .int .i64 q, .int .i64 t, .slice .none 0 0, .slice .none 0 0, .slice .none 0 0, .slice .none 0 0, .slice .none 0 0]) ⟨b, n, q, t, [], [], [], [], []⟩ :=
 ⟨_, _, _, _, _, [], [], [], rfl, rfl, rfl, rfl, fun W _ => ⟨CellsAt.nil _ _, CellsAt.nil _ _, fun p hp => (by cases hp), CellsAt.nil _ _, CellsAt.nil _ _, fun p hp => (by cases hp), CellsAt.nil _ _, fun p hp => (by cases hp)⟩⟩
end
end Go.Proofs.YtfedhcnmdmhppaaGreat
