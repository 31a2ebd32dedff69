/- Joined: VZE, O1, O2, O3, O4, O5, O6, O7, O8, O9, O10, O11, O12, O13, O14. -/
import Derived.Test.YteogfjpaljbkoaaGreatK3
import Derived.Test.YteogfjpaljbkoaaGreatK5
import Derived.Test.YteogfjpaljbkoaaGreatK4
set_option linter.unusedVariables false
set_option linter.unusedSimpArgs false
set_option maxRecDepth 100000
set_option maxHeartbeats 16000000
namespace Go.Proofs.YteogfjpaljbkoaaGreat
open Go.RowKit
section
section
variable {P : Program} {T : Tab} {F : Fence} {N : Nat}
def Dfr2 (w0:World) (G1 G2:Gh) (w:World) (D D':List Deferred):Prop:=
 ∃ms:List Nat,D'=(ms.map fun r=>{ target:=.collected r,args:=#[] })++ D∧(∀r∈ms,w0.heap.size≤r∧w.heap[r]? = some (.deferred (some []))∧((∀b,G1.ι b ≠ some r)∧¬ G1.amb r)∧(∀b,G2.ι b ≠ some r)∧¬ G2.amb r)∧ms.Pairwise (· ≠ ·)
def PostLo (N base:Nat) (G:Gh) (w:World) (D:List Deferred) (K:Ex→Heap→Nat→St→Prop) (e:Exit) (a':Act) (w':World):Prop:=
 ∃e' h1 nx1 G1 s2 G2,e=Ex.to e'∧K e' h1 nx1 s2∧Low base G w G1 h1 nx1 G2.B w'∧Sim G2 N s2 a' w'∧Dfr2 w G1 G2 w' D a'.defers∧(∀b c,G2.ι b=some c→G2.B≤c)∧∀c,G2.amb c→G2.B≤c∨G1.amb c
def VLo (P:Program) (F:Fence) (N base:Nat) (c:Code) (s:St) (K:Ex→Heap→Nat→St→Prop):Prop:=
 ∀(n:Nat) (G:Gh) (a:Act) (w:World),Sim G N s a w→base≤s.nx→c.wpIn F n P (PostLo N base G w a.defers K) a w
theorem PostLo.evo {base:Nat} {G Ga:Gh} {w wa:World} {D D1:List Deferred} {K:Ex→Heap→Nat→St→Prop} {e:Exit} {a':Act} {w':World} (h:PostLo N base Ga wa D1 K e a' w') (he:Evo base G w Ga wa) (hd:Dfr w Ga wa D D1):PostLo N base G w D K e a' w':=by
 obtain⟨e',h1,nx1,G1,s2,G2,q1,q2,q3,q4,q5,q6,q7⟩:=h
 refine⟨e',h1,nx1,G1,s2,G2,q1,q2,⟨q3.hr,he.trans q3.evo,q3.nx,q3.amb,q3.lt,Nat.le_trans he.size q3.B⟩,q4,?_,q6,q7⟩
 obtain⟨ms,d1,d2,d3⟩:=hd
 obtain⟨ms2,k1,k2,k3⟩:=q5
 have hlt:∀r∈ms,r < wa.heap.size:=fun r hr=>lt_of_heap (d2 r hr).2.1
 refine⟨ms2 ++ ms,by rw[k1,d1];simp,fun r hr=>?_,List.pairwise_append.2 ⟨k3,d3,fun a ha b hb e=>?_⟩⟩
 ·rcases List.mem_append.1 hr with hr|hr
  ·have:=k2 r hr
   exact⟨Nat.le_trans he.size this.1,this.2⟩
  ·obtain⟨z1,z2,z3,z4⟩:=d2 r hr
   have hl:=hlt r hr
   have g1:(∀b,G1.ι b ≠ some r)∧¬ G1.amb r:=by
    refine⟨fun b hb=>?_,fun ha=>?_⟩
    ·obtain⟨b',hb'⟩:=q3.evo.idn b r hb hl
     exact z3 b' hb'
    ·rcases q3.evo.ambn r ha hl with h|⟨b,h⟩
     ·exact z4 h
     ·exact z3 b h
   refine⟨z1,(q3.evo.keepu r hl z3).trans z2,g1,fun b hb=>?_,fun ha=>?_⟩
   ·have:=q6 b r hb;have:=q3.B;omega
   ·rcases q7 r ha with h|h
    ·have:=q3.B;omega
    ·exact g1.2 h
 ·have:=(k2 a ha).1
  have:=hlt b hb
  omega
theorem vlo_seq {base:Nat} {x y:Code} {s:St} {K:Ex→Heap→Nat→St→Prop} (h:VC P F N base x s (thenK (fun s'=>VLo P F N base y s' K) (fun _ _=>False))):VLo P F N base (.seq x y) s K:=by
 intro n G a w hs hb
 refine wpIn_seq (wpIn_mono (h n G a w hs hb) ?_)
 rintro e a' w' ⟨e',s',G',rfl,hq,hs',he,hb',hd⟩
 cases e' with
 | normal=>exact wpIn_mono (hq n G' a' w' hs' hb') fun e a2 w2 hp=>hp.evo he hd
 | exit id=>exact hq.elim
 | goto l=>exact hq.elim
 | ret=>exact hq.elim
theorem CallB.tidy {f:FuncId} {args:List V} {h:Heap} {nx:Nat} {R R':V→Heap→Nat→Prop} (hc:CallB P f args h nx R) (hr:∀v h' nx',R v h' nx'→∃h2,(∀b,hget h2 b=hget h' b)∧R' v h2 nx'):CallB P f args h nx R':=
 ⟨hc.1,fun G w us hh hv=>(hc.2 G w us hh hv).mono fun e w' ⟨u,v,h',nx',G',B',h1,h2,h3,h4⟩=>by
  obtain⟨h2',q1,q2⟩:=hr _ _ _ h2
  exact⟨u,v,h2',nx',G',B',h1,q2,h3.congr q1 (Nat.le_refl _),h4⟩⟩
theorem vlo_weak {base:Nat} {c:Code} {s s':St} {K:Ex→Heap→Nat→St→Prop} (hw:Wk base N s s') (h:VLo P F N base c s' K):VLo P F N base c s K:=fun n G a w hs hb=>by
 obtain⟨G',h1,h2,h3⟩:=hw G a w hs hb
 exact wpIn_mono (h n G' a w h1 h3) fun e a' w' hp=>hp.evo h2 (Dfr.of_eq rfl)
structure PutOps (T:Tab) (N:Nat) (ops:Array Oper) (x y d0 d1 d2 d3 off:Nat):Prop where
 ex:∃o0 o1 o2 o3 o4 st f ft tv fs,ops=#[o0,o1,o2,o3,o4]∧(o0.op=.move (.tmp x)∧o1.op=.move (.tmp y)∧o2.op=.nilCheck (.tmp d0)∧o3.op=.fieldAddr st (.tmp d2) f∧o4.op=.store tv (.tmp d3) (.tmp d1)) ∧
  (o0.dst=some d0∧o1.dst=some d1∧o2.dst=some d2∧o3.dst=some d3∧o4.dst=none)∧(o0.guard=none∧o1.guard=none∧o2.guard=none∧o3.guard=none∧o4.guard=none) ∧
  (T st).k=.struct fs∧nth (0,0) fs f=(off,ft)∧f < fs.length∧(T ft).k ≠ .other∧(T ft).size ≠ 0∧(T tv).k ≠ .other∧(T tv).size=1
 d:d0 < N∧d1 < N∧d2 < N∧d3 < N∧x ≠ d0∧y ≠ d0∧d1 ≠ d0∧d2 ≠ d1∧d3 ≠ d1∧d3 ≠ d2∧d2 ≠ d0∧d3 ≠ d0
theorem wpOps_value {ops:Array Oper} {i:Nat} {rest:List Nat} {o:Oper} {n:Nat} {a:Act} {w w':World} {v:Value} (hF:FW F) (ho:ops[i]? = some o) (hg:o.guard=none) (hnd:∀c,o.op ≠ .defer c) (hr:(execOp a.eval o).run P w=.ok (.value v) w') (Q:Exit→Act→World→Prop) :
  wpOpsIn F n P ops Q (i :: rest) a w↔wpOpsIn F n P ops Q rest (a.put o.dst v) w':=by
 have hw:Region.wanted o (yielded ops a.tmps)=true:=by simp[Region.wanted,hg]
 simp only[wpOpsIn,ho,hw,if_true,Oper.wpIn]
 rw[Oper.semAt_eq _ _ _ hnd,hr,Oper.uponIn_value]
 exact⟨fun h=>h.2,fun h=>⟨fun f _=>hF.fn f,h⟩⟩
theorem wpOps_skip {ops:Array Oper} {i:Nat} {rest:List Nat} {o:Oper} {n:Nat} {a:Act} {w w':World} (hF:FW F) (ho:ops[i]? = some o) (hg:o.guard=none) (hnd:∀c,o.op ≠ .defer c) (hr:(execOp a.eval o).run P w=.ok .skip w') (Q:Exit→Act→World→Prop) :
  wpOpsIn F n P ops Q (i :: rest) a w↔wpOpsIn F n P ops Q rest (a.put o.dst undef) w':=by
 have hw:Region.wanted o (yielded ops a.tmps)=true:=by simp[Region.wanted,hg]
 simp only[wpOpsIn,ho,hw,if_true,Oper.wpIn]
 rw[Oper.semAt_eq _ _ _ hnd,hr,Oper.uponIn_skip]
 exact⟨fun h=>h.2,fun h=>⟨fun f _=>hF.fn f,h⟩⟩
theorem put_ops (hT:TabOk P T) (hF:FW F) {ops:Array Oper} {x y d0 d1 d2 d3 off:Nat} (hp:PutOps T N ops x y d0 d1 d2 d3 off) {n:Nat} {a:Act} {w:World} {c:Nat} {v old:Value} (ha:a.tmps.size=N) (hx:a.tmps.getD x undef=.pointer (some ⟨c,0,none⟩))
  (hy:a.tmps.getD y undef=v) (hone:v.oneCell'=true) (hcl:v.cells=#[v]) (hcell:w.cell? ⟨c,off,none⟩=some old) (hfz:w.frozen? ⟨c,off,none⟩=false) :
  ∃a',(∀Q,wpOpsIn F n P ops Q [0,1,2,3,4] a w↔Q .normal a' (w.setCell ⟨c,off,none⟩ v))∧a'.defers=a.defers∧a'.tmps.size=N∧∀i,i ≠ d0→i ≠ d1→i ≠ d2→i ≠ d3→a'.tmps.getD i undef=a.tmps.getD i undef:=by
 obtain⟨⟨o0,o1,o2,o3,o4,st,f,ft,tv,fs,rfl,⟨e0,e1,e2,e3,e4⟩,⟨q0,q1,q2,q3,q4⟩,⟨g0,g1,g2,g3,g4⟩,hk,hnth,hf,hft,hfz0,htv,hsz⟩,hd0,hd1,hd2,hd3,hxd,hyd,h10,h21,h31,h32,h20,h30⟩:=hp
 obtain⟨fields,fd,hu,hfd,he⟩:=hT.field hk (by simpa[Nat.blt_eq]using hf)
 have hoff:fd.offset=off:=by rw[hnth]at he;exact(Prod.mk.inj he).1.symm▸rfl
 have hty:fd.type=ft:=by rw[hnth]at he;exact(Prod.mk.inj he).2.symm▸rfl
 subst hty
 subst hoff
 have nd:∀{o:Oper} {p:Op},o.op=p→(∀c,p ≠ .defer c)→∀c,o.op ≠ .defer c:=fun h1 h2 c e=>h2 c (h1▸e)
 have r0:∀w:World,(execOp a.eval o0).run P w=.ok (.value (.pointer (some ⟨c,0,none⟩))) w:=fun w=>by
  simp only[execOp,e0,Act.eval,hx,Sem.run_pure]
 have h:=fun Q=>wpOps_value (F:=F) (n:=n) (ops:=#[o0,o1,o2,o3,o4]) (o:=o0) (i:=0) (rest:=[1,2,3,4]) hF rfl g0 (nd e0 (by simp)) (r0 w) Q
 rw[q0]at h
 have s0:(a.put (some d0) (.pointer (some ⟨c,0,none⟩))).tmps.size=N:=by simp[Act.put,ha]
 have gy:(a.put (some d0) (.pointer (some ⟨c,0,none⟩))).tmps.getD y undef=v:=by rw[put_getD (by omega),if_neg (Ne.symm hyd),hy]
 have gx:(a.put (some d0) (.pointer (some ⟨c,0,none⟩))).tmps.getD d0 undef=.pointer (some ⟨c,0,none⟩):=by rw[put_getD (by omega),if_pos rfl]
 have ho:∀i,i ≠ d0→(a.put (some d0) (.pointer (some ⟨c,0,none⟩))).tmps.getD i undef=a.tmps.getD i undef:=fun i hi=>by rw[put_getD (by omega),if_neg (Ne.symm hi)]
 have df0:(a.put (some d0) (.pointer (some ⟨c,0,none⟩))).defers=a.defers:=rfl
 generalize a.put (some d0) (.pointer (some ⟨c,0,none⟩))=a0 at h s0 gy gx ho df0
 have r1:(execOp a0.eval o1).run P w=.ok (.value v) w:=by
  simp only[execOp,e1,Act.eval,gy,Sem.run_pure]
 have h:=fun Q=>(h Q).trans <| wpOps_value (F:=F) (n:=n) (ops:=#[o0,o1,o2,o3,o4]) (o:=o1) (i:=1) (rest:=[2,3,4]) hF rfl g1 (nd e1 (by simp)) r1 Q
 rw[q1]at h
 have s1:(a0.put (some d1) v).tmps.size=N:=by simp[Act.put,s0]
 have gy1:(a0.put (some d1) v).tmps.getD d1 undef=v:=by rw[put_getD (by omega),if_pos rfl]
 have gx1:(a0.put (some d1) v).tmps.getD d0 undef=.pointer (some ⟨c,0,none⟩):=by rw[put_getD (by omega),if_neg h10,gx]
 have ho1:∀i,i ≠ d0→i ≠ d1→(a0.put (some d1) v).tmps.getD i undef=a.tmps.getD i undef:=fun i h1 h2=>by rw[put_getD (by omega),if_neg (Ne.symm h2),ho i h1]
 have df1:(a0.put (some d1) v).defers=a.defers:=df0
 generalize a0.put (some d1) v=a1 at h s1 gy1 gx1 ho1 df1
 have r2:(execOp a1.eval o2).run P w=.ok (.value (.pointer (some ⟨c,0,none⟩))) w:=by
  simp only[execOp,e2,Act.eval,gx1,Sem.run_pure]
 have h:=fun Q=>(h Q).trans <| wpOps_value (F:=F) (n:=n) (ops:=#[o0,o1,o2,o3,o4]) (o:=o2) (i:=2) (rest:=[3,4]) hF rfl g2 (nd e2 (by simp)) r2 Q
 rw[q2]at h
 have s2:(a1.put (some d2) (.pointer (some ⟨c,0,none⟩))).tmps.size=N:=by simp[Act.put,s1]
 have gy2:(a1.put (some d2) (.pointer (some ⟨c,0,none⟩))).tmps.getD d1 undef=v:=by rw[put_getD (by omega),if_neg h21,gy1]
 have gx2:(a1.put (some d2) (.pointer (some ⟨c,0,none⟩))).tmps.getD d2 undef=.pointer (some ⟨c,0,none⟩):=by rw[put_getD (by omega),if_pos rfl]
 have ho2:∀i,i ≠ d0→i ≠ d1→i ≠ d2→(a1.put (some d2) (.pointer (some ⟨c,0,none⟩))).tmps.getD i undef=a.tmps.getD i undef:=fun i h1 h2 h3=>by rw[put_getD (by omega),if_neg (Ne.symm h3),ho1 i h1 h2]
 have df2:(a1.put (some d2) (.pointer (some ⟨c,0,none⟩))).defers=a.defers:=df1
 generalize a1.put (some d2) (.pointer (some ⟨c,0,none⟩))=a2 at h s2 gy2 gx2 ho2 df2
 have r3:(execOp a2.eval o3).run P w=.ok (.value (.pointer (some ⟨c,fd.offset,none⟩))) w:=by
  have run:(Instr.fieldAt st (.pointer (some ⟨c,0,none⟩)) f).run P w=.ok (.pointer (some ⟨c,fd.offset,none⟩)) w:=by
   simp[Instr.fieldAt,run_underlying hu,hfd,Instr.sureAddr,fieldPlace,hT.sizeOf hft,hfz0,add_none]
  simp only[execOp,e3,Act.eval,gx2,Sem.run_bind,run,Result.andThen_ok,Sem.run_pure]
 have h:=fun Q=>(h Q).trans <| wpOps_value (F:=F) (n:=n) (ops:=#[o0,o1,o2,o3,o4]) (o:=o3) (i:=3) (rest:=[4]) hF rfl g3 (nd e3 (by simp)) r3 Q
 rw[q3]at h
 have s3:(a2.put (some d3) (.pointer (some ⟨c,fd.offset,none⟩))).tmps.size=N:=by simp[Act.put,s2]
 have gy3:(a2.put (some d3) (.pointer (some ⟨c,fd.offset,none⟩))).tmps.getD d1 undef=v:=by rw[put_getD (by omega),if_neg h31,gy2]
 have gx3:(a2.put (some d3) (.pointer (some ⟨c,fd.offset,none⟩))).tmps.getD d3 undef=.pointer (some ⟨c,fd.offset,none⟩):=by rw[put_getD (by omega),if_pos rfl]
 have ho3:∀i,i ≠ d0→i ≠ d1→i ≠ d2→i ≠ d3→(a2.put (some d3) (.pointer (some ⟨c,fd.offset,none⟩))).tmps.getD i undef=a.tmps.getD i undef:=fun i h1 h2 h3 h4=>by rw[put_getD (by omega),if_neg (Ne.symm h4),ho2 i h1 h2 h3]
 have df3:(a2.put (some d3) (.pointer (some ⟨c,fd.offset,none⟩))).defers=a.defers:=df2
 generalize a2.put (some d3) (.pointer (some ⟨c,fd.offset,none⟩))=a3 at h s3 gy3 gx3 ho3 df3
 have hst:(store ⟨c,fd.offset,none⟩ v .plain).run P w=.ok () (w.setCell ⟨c,fd.offset,none⟩ v):=by
  rw[run_store P w _ v .plain hone,hcell,hfz]
  rfl
 have r4:(execOp a3.eval o4).run P w=.ok .skip (w.setCell ⟨c,fd.offset,none⟩ v):=by
  simp only[execOp,e4,Act.eval,gx3,gy3,Instr.storeAt,Instr.sureAddr,storeVar,Sem.run_bind,Sem.run_pure,Result.andThen_ok,hT.sizeOf htv,hcl,hsz,List.size_toArray,List.length_cons,List.length_nil,ne_eq,not_true_eq_false,if_false,storeCells,add_none,Nat.add_zero,hst]
 have h:=fun Q=>(h Q).trans (wpOps_skip (F:=F) (n:=n) (ops:=#[o0,o1,o2,o3,o4]) (o:=o4) (i:=4) (rest:=[]) hF rfl g4 (nd e4 (by simp)) r4 Q)
 rw[q4]at h
 exact⟨a3,h,df3,s3,ho3⟩
theorem vlo_put (hT:TabOk P T) (hm:P.follows .mixedOrders=true) (hF:FW F) {base idX idL idR b0 x y z d0 d1 d2 d3 off nx2:Nat} {opsX opsL opsR:Array Oper} {s:St} {K:Ex→Heap→Nat→St→Prop} {fr:Bool} {ty:TypeId} {cells:List V} {vy vz:V}
  (hx:s.get x=.ptr b0 0) (hy:s.get y=vy) (hvy:Free vy∧Cold vy) (hy1:vy.one=true) (hb0:hget s.h b0=some (.var fr ty cells)) (hcells:∀v∈cells,Free v∧Cold v) (hoff:off < cells.length)
  (hpo:PutOps T N opsL x y d0 d1 d2 d3 off) (hz:z ≠ d0∧z ≠ d1∧z ≠ d2∧z ≠ d3) (hvz:Free vz∧Fresh vz)
  (h:∀u:Nat→Value,drawK P T N opsX.toList opsX.toList ⟨[(x,.pin (u x) (.iptr false cells)),(y,.pin (u y) vy)],[],0⟩ [] (fun fps s2=>drawOk opsX.toList fps=true∧(∃q,s2.get x=.pin (u x) q)∧(∃q,s2.get y=.pin (u y) q)∧Wk 0 N s2 ⟨[(z,vz)],[],nx2⟩))
  (hL:runOps P T N opsL.toList opsL.toList ⟨[(x,.ptr b0 0),(y,vy)],s.h,s.nx⟩ (fun s3=>runOps P T N opsR.toList opsR.toList ⟨[(z,vz)],[],0⟩ (fun s4=>K .ret s3.h s3.nx s4))) :
  VLo P F N base (.seq (.region idX opsX true) (.seq (.region idL opsL false) (.seq (.region idR opsR false) .ret))) s K:=by
 intro n G a w hs hb
 let B:=w.heap.size
 let G2:Gh:=⟨fun _=>none,fun c=>G.amb c∨∃b blk,hget s.h b=some blk∧G.ι b=some c,B⟩
 have hfc:∀{v:V} {u:Value},Free v→Cold v→vr G w v u→vr G2 w v u:=fun hf hc hv=>
  hf _ _ _ _ _ (hc _ _ _ (imm G2 w) _ (fun a u hi=>⟨hi.1,.inl hi.2.1,(fun h=>by cases h),hi.2.2.2⟩) hv)
 have ht:Two base G w G s.h s.nx G2 w:=⟨hs.hr,Evo.refl _ _ _,hb,fun c hc=>⟨hs.hr.amb_lt c hc,.inl hc⟩,hs.hr.lt,fun b blk c q1 q2=>.inr ⟨b,blk,q1,q2⟩,Nat.le_refl _,(fun b c hc _=>by cases hc),fun c hc _=>by
  rcases hc with hc|⟨b,_,_,hc⟩
  ·exact .inl hc
  ·exact .inr ⟨b,hc⟩⟩
 have hxv:=hs.tmp x
 rw[hx]at hxv
 have hyv:=hs.tmp y
 rw[hy]at hyv
 obtain⟨c,hc,hux⟩:∃c,G.ι b0=some c∧a.tmps.getD x undef=.pointer (some ⟨c,0,none⟩):=by
  generalize a.tmps.getD x undef=q at hxv
  cases hxv with
  | ptr _ _ c hc=>exact⟨c,hc,rfl⟩
 have hown:Holds G w b0 fr true ty cells:=hs.hr.own b0 _ hb0
 obtain⟨c',cs,g1,g2,g3,g4,g5,g6,g7⟩:=hown
 rw[hc]at g1
 obtain rfl:c=c':=Option.some.inj g1
 have hip:vr G2 w (.iptr false cells) (a.tmps.getD x undef):=by
  rw[hux]
  refine .iptr false cells ⟨c,0,none⟩ (fun j=>(cs[j]?).getD undef) rfl (fun j v hj=>?_) (fun j v hj=>?_)
  ·obtain⟨u,hu,h1,_⟩:=g6 j v hj
   have e:(cs[j]?).getD undef=u:=by rw[hu];rfl
   rw[e]
   exact⟨by simp[rd,World.cell?,g2,hu],.inr ⟨b0,_,hb0,hc⟩,(fun h=>by cases h),fun _=>h1⟩
  ·obtain⟨u,hu,_,hv⟩:=g6 j v hj
   have e:(cs[j]?).getD undef=u:=by rw[hu];rfl
   rw[e]
   obtain⟨z1,z2⟩:=hcells v (List.mem_of_getElem? hj)
   exact hfc z1 z2 hv
 have hs2:Sim G2 N ⟨[(x,.pin (a.tmps.getD x undef) (.iptr false cells)),(y,.pin (a.tmps.getD y undef) vy)],[],0⟩ a w:=by
  refine⟨hs.size,fun i=>?_,⟨fun c hc=>?_,Nat.le_refl _,fun _ _=>rfl,fun b blk h=>by simp[hget]at h,fun b b' k k' c h=>by simp[hget]at h,fun b k c h=>by simp[hget]at h,(fun b c h=>by cases h),fun b k h=>by simp[hget]at h,hs.hr.gl.to (fun _ h=>.inl h) (fun _ _=>rfl)⟩⟩
  ·show vr G2 w (look [(x,_),(y,_)] i) _
   rw[look_cons]
   by_cases h1:x=i
   ·subst h1;rw[if_pos rfl];exact .pin _ _ hip
   ·rw[if_neg h1,look_cons]
    by_cases h2:y=i
    ·subst h2;rw[if_pos rfl];exact .pin _ _ (hfc hvy.1 hvy.2 hyv)
    ·rw[if_neg h2];exact .any _
  ·rcases hc with hc|⟨b,_,_,hc⟩
   ·exact hs.hr.amb_lt c hc
   ·exact hs.hr.lt b c hc
 have hgl:∀p∈glob,G.amb p.1:=fun p hp=>(hs.hr.gl p hp).1
 have hdraw:=h (fun i=>a.tmps.getD i undef)
 refine wpIn_seq (wp_draw_cut hT hm hF hs2 (Nat.zero_le _) (m:=opsX.toList.length) (Nat.le_refl _) (KS:=fun s2=>(∃q,s2.get x=.pin (a.tmps.getD x undef) q)∧(∃q,s2.get y=.pin (a.tmps.getD y undef) q)∧Wk 0 N s2 ⟨[(z,vz)],[],nx2⟩) (base:=0) ?_ fun s2 a1 w1 G2a hk hs1 hb1 he hd=>?_)
 ·rw[List.take_length]
  have e:(fun(fps:List FP) (s2:St)=>drawOk opsX.toList fps=true∧(∃q,s2.get x=.pin (a.tmps.getD x undef) q)∧(∃q,s2.get y=.pin (a.tmps.getD y undef) q)∧Wk 0 N s2 ⟨[(z,vz)],[],nx2⟩)=fun fps s2=>(drawOkN opsX.toList opsX.toList.length fps && tailOk opsX.toList opsX.toList.length)=true∧(∃q,s2.get x=.pin (a.tmps.getD x undef) q)∧(∃q,s2.get y=.pin (a.tmps.getD y undef) q)∧Wk 0 N s2 ⟨[(z,vz)],[],nx2⟩:=by
   funext fps s2
   rw[drawOk_eq]
  rw[← e]
  exact hdraw
 obtain⟨⟨qx,hpx⟩,⟨qy,hpy⟩,hwk⟩:=hk
 have pinned:∀{i:Nat} {q:V},s2.get i=.pin (a.tmps.getD i undef) q→a1.tmps.getD i undef=a.tmps.getD i undef:=by
  intro i q hq
  have hi:=hs1.tmp i
  rw[hq]at hi
  generalize a1.tmps.getD i undef=u1 at hi
  cases hi with
  | pin=>rfl
 have ex:=pinned hpx
 have ey:=pinned hpy
 have t1:=ht.step he
 have ag1:Agr G G s.h w w1:=⟨he.size,rfl,rfl,fun _ h=>h,fun c hc=>he.keep c (ht.amb c hc).2,fun b blk c hb hc=>he.keep c (ht.own b blk c hb hc),fun b c m _ hm=>he.csz c m hm⟩
 obtain⟨G2b,hs1b,he2,_⟩:=hwk G2a a1 w1 hs1 (Nat.zero_le _)
 have t2:=t1.step he2
 have hBa:G2b.B=B:=by rw[he2.B,he.B]
 have e0:List.range' opsX.toList.length (opsX.toList.length - opsX.toList.length)=[]:=by simp
 rw[e0]
 show wpOpsIn F n P opsX _ [] a1 w1
 refine wpIn_seq (wpIn_region ?_)
 -- the store,below the mark
 have hsL:Sim G N ⟨[(x,.ptr b0 0),(y,vy)],s.h,s.nx⟩ a1 w1:=by
  refine⟨hs1.size,fun i=>?_,t1.hr⟩
  show vr G w1 (look [(x,_),(y,_)] i) _
  rw[look_cons]
  by_cases h1:x=i
  ·subst h1;rw[if_pos rfl,ex];exact ag1.vr hxv
  ·rw[if_neg h1,look_cons]
   by_cases h2:y=i
   ·subst h2;rw[if_pos rfl,ey];exact ag1.vr hyv
   ·rw[if_neg h2];exact .any _
 have hcw:w1.heap[c]? = some (.cells cs ty (0,0)):=(ag1.own b0 _ c hb0 hc).trans g2
 have hjl:off < cs.size:=Nat.lt_of_lt_of_le hoff g3
 have hcell:w1.cell? ⟨c,off,none⟩=some cs[off]:=by simp[World.cell?,hcw,hjl]
 have hfz:w1.frozen? ⟨c,off,none⟩=false:=by simp[World.frozen?,hcw]
 have hone:(a1.tmps.getD y undef).oneCell'=true:=VR.one' hy1 (by rw[ey];exact hyv)
 have hcl:(a1.tmps.getD y undef).cells=#[a1.tmps.getD y undef]:=VR.one_cells hy1 (by rw[ey];exact hyv)
 have hlist:List.range opsL.size=[0,1,2,3,4]:=by
  obtain⟨⟨o0,o1,o2,o3,o4,_,_,_,_,_,rfl,_⟩,_⟩:=hpo
  rfl
 obtain⟨a2,hiff,hd2,hsz2,ho2⟩:=put_ops hT hF (n:=n) hpo hs1.size (by rw[ex];exact hux) rfl hone hcl hcell hfz
 rw[hlist,hiff]
 have hrun:=runOps_ok (n:=n) hT hF (rest:=opsL.toList) (all:=opsL.toList) (k:=0) (base:=base) (Q:=fun e a' w'=>e=.normal∧∃s3 G',runOps P T N opsR.toList opsR.toList ⟨[(z,vz)],[],0⟩ (fun s4=>K .ret s3.h s3.nx s4)∧Sim G' N s3 a' w'∧Evo base G w1 G' w'∧base≤s3.nx) (fun i=>by simp) hL hsL hb
  (fun s' a' w' G' q1 q2 q3 q4 q5=>⟨rfl,s',G',q1,q2,q3,q4⟩)
 rw[← List.range_eq_range',show opsL.toList.length=opsL.size by simp,hlist,show opsL.toList.toArray=opsL by simp,hiff]at hrun
 obtain⟨_,s3,G',hR,hs3,he3,hb3⟩:=hrun
 generalize hw2:w1.setCell ⟨c,off,none⟩ (a1.tmps.getD y undef)=w2 at *
 have hch:Ch w1 w2 ⟨c,off,none⟩ (a1.tmps.getD y undef):=hw2▸ch_setCell hcell
 have hBw:B≤w1.heap.size:=he.size
 have hcB:c < B:=hs.hr.lt _ _ hc
 have hltB:∀c,G'.amb c→c < B:=fun c' h'=>by
  have h1:c' < w2.heap.size:=hs3.hr.amb_lt c' h'
  rw[hch.size]at h1
  rcases he3.ambn c' h' h1 with h2|⟨b,h2⟩
  ·exact hs.hr.amb_lt c' h2
  ·exact hs.hr.lt b c' h2
 have hltB2:∀b c,G'.ι b=some c→c < B:=fun b c' h'=>by
  have h1:c' < w2.heap.size:=hs3.hr.lt b c' h'
  rw[hch.size]at h1
  obtain⟨b',h2⟩:=he3.idn b c' h' h1
  exact hs.hr.lt b' c' h2
 have hlow:Low base G w G' s3.h s3.nx B w2:=⟨hs3.hr,t1.evo.trans he3,hb3,hltB,hltB2,Nat.le_refl _⟩
 -- what is answered,behind the mark
 let G3:Gh:=⟨fun _=>none,fun c=>(B≤c∧G2b.amb c)∨∃p∈glob,p.1=c,B⟩
 have hzv:vr G3 w2 vz (a2.tmps.getD z undef):=by
  rw[ho2 z hz.1 hz.2.1 hz.2.2.1 hz.2.2.2]
  have hzz:=hs1b.tmp z
  rw[show St.get ⟨[(z,vz)],[],nx2⟩ z=vz by simp[St.get,look,Nat.beq_refl]]at hzz
  refine VR.mono (ι:=G3.ι) (fun _ _ h=>h) hch.csz (fun _ _ _ h=>h) (hvz.1 _ _ _ _ _ (hvz.2 _ _ _ (imm G3 w2) _ (fun ad u hi=>?_) hzz))
  have h1:=(hi.2.2.1 rfl).1
  rw[hBa]at h1
  have hne:ad.block ≠ c:=by omega
  have hsame:w2.heap[ad.block]? = w1.heap[ad.block]?:=hch.other _ hne
  exact⟨(rd_of_block hsame).trans hi.1,.inl ⟨h1,hi.2.1⟩,fun _=>⟨h1,by rw[frozen_of_block hsame];exact(hi.2.2.1 rfl).2⟩,hi.2.2.2⟩
 have hs3':Sim G3 N ⟨[(z,vz)],[],0⟩ a2 w2:=by
  refine⟨hsz2,fun i=>?_,⟨fun c' h'=>?_,by rw[hch.size];exact hBw,fun _ _=>rfl,fun b blk h=>by simp[hget]at h,fun b b' k k' c h=>by simp[hget]at h,fun b k c h=>by simp[hget]at h,(fun b c h=>by cases h),fun b k h=>by simp[hget]at h,fun p hp=>⟨.inr ⟨p,hp,rfl⟩,?_⟩⟩⟩
  ·show vr G3 w2 (look [(z,vz)] i) _
   rw[look_cons]
   by_cases h1:z=i
   ·subst h1;rw[if_pos rfl];exact hzv
   ·rw[if_neg h1];exact .any _
  ·rcases h' with⟨_,h'⟩|⟨p,hp,rfl⟩
   ·rw[hch.size];exact hs1b.hr.amb_lt c' h'
   ·have:=hs.hr.amb_lt _ (hgl p hp);rw[hch.size];omega
  ·obtain⟨o,h1,h2⟩:=(t1.hr.gl p hp).2
   refine⟨o,?_,h2⟩
   have hne:p.1 ≠ c:=fun e=>hs.hr.apart b0 _ c hb0 hc (e▸hgl p hp)
   rw[hch.other _ hne]
   exact h1
 have hpost:∀(s4:St) (a3:Act) (w3:World) (G4:Gh),K .ret s3.h s3.nx s4→Sim G4 N s4 a3 w3→Evo 0 G3 w2 G4 w3→a3.defers=a2.defers→PostLo N base G w a.defers K .ret a3 w3:=by
  intro s4 a3 w3 G4 q1 q2 q3 q5
  have hbel:Below B w2 w3:=⟨q3.os,q3.tape,q3.output,q3.size,fun k hk=>q3.keepu k (by rw[hch.size];omega) (fun b h=>by cases h)⟩
  obtain⟨hl',ag3⟩:=hlow.below hbel
  have hB4:G4.B=B:=q3.B
  have hidn:∀b c,G4.ι b=some c→G4.B≤c:=fun b c' h'=>by
   rw[hB4]
   rcases Nat.lt_or_ge c' w2.heap.size with h1|h1
   ·obtain⟨b',h2⟩:=q3.idn b c' h' h1
    cases h2
   ·rw[hch.size]at h1;omega
  refine⟨.ret,s3.h,s3.nx,G',s4,G4,rfl,q1,by rw[hB4];exact hl',q2,⟨[],by rw[q5,hd2,hd];rfl,by simp,.nil⟩,hidn,fun c' h'=>?_⟩
  rw[hB4]
  rcases Nat.lt_or_ge c' w2.heap.size with h1|h1
  ·rcases q3.ambn c' h' h1 with(⟨h2,_⟩|⟨p,hp,rfl⟩)|⟨b,h2⟩
   ·exact .inl h2
   ·exact .inr ((hs3.hr.gl p hp).1)
   ·cases h2
  ·left;rw[hch.size]at h1;omega
 refine wpIn_seq (wpIn_mono (Q:=fun e a3 w3=>e=.normal∧PostLo N base G w a.defers K .ret a3 w3) (wpIn_region ?_) ?_)
 ·have hfin:=runOps_ok (n:=n) hT hF (rest:=opsR.toList) (all:=opsR.toList) (k:=0) (base:=0) (Q:=fun e a3 w3=>e=.normal∧PostLo N base G w a.defers K .ret a3 w3) (fun i=>by simp) hR hs3' (Nat.zero_le _)
   (fun s4 a3 w3 G4 q1 q2 q3 _ q5=>⟨rfl,hpost s4 a3 w3 G4 q1 q2 q3 q5⟩)
  rw[List.range_eq_range']
  simpa using hfin
 ·rintro e a3 w3 ⟨rfl,hp⟩
  exact wpIn_ret hp
theorem callB_of_lo (hT:TabOk P T) {f:FuncId} {fn:Func} {body:Code} (hf:P.funcs[f]? = some fn) (hb:fn.body=some body) (hn:fn.name ≠ "runtime.NumGoroutine") {args:List V} {h:Heap} {nx:Nat} {R:V→Heap→Nat→Prop}
  (hl:args.length≤fn.ntmps)
  (hv:VLo P Fence.wide fn.ntmps nx body ⟨zipT args 0,h,nx⟩ (fun e h1 nx1 s2=>match e with
   | .normal|.ret=>resK T s2 fn.results.toList fun v=>∃v' h' nx',Ends 0 s2 v v' h' nx'∧Free v'∧Fresh v'∧R v' h1 nx1
   | _=>False)):CallB P f args h nx R:=by
 refine⟨⟨fn,hf⟩,fun G w us hr hargs=>.inl ⟨⟨fn,hf,by simp[hb],hn⟩,(callsIn_wide (n:=0)).1 (callsIn_of_wp_marks hf hb trivial ?_)⟩⟩
 have hsim:Sim G fn.ntmps ⟨zipT args 0,h,nx⟩ { tmps:=us.toArray ++ Array.replicate (fn.ntmps - us.toArray.size) undef,defers:=[] } w:=by
  have hul:us.length=args.length:=hargs.1.symm
  refine⟨by simp;omega,fun i=>?_,hr⟩
  simp only[St.get]
  rw[zipT_get]
  split
  ·rename_i hi
   have hi1:i < args.length:=by omega
   have hi2:i < us.length:=by omega
   have e1:args.getD (i - 0) .any=args[i]:=by simp[hi1]
   rw[e1]
   have e2:(us.toArray ++ Array.replicate (fn.ntmps - us.toArray.size) undef).getD i undef=us[i]:=by
    rw[Array.getD_eq_getD_getElem?,Array.getElem?_append_left (by simpa using hi2)]
    simp[hi2]
   rw[e2]
   exact hargs.2 i _ _ (List.getElem?_eq_getElem hi1) (List.getElem?_eq_getElem hi2)
  ·exact .any _
 refine wpIn_mono (hv 0 G _ w hsim (Nat.le_refl _)) ?_
 rintro e a' w' ⟨e',h1,nx1,G1,s',G',rfl,hq,ht,hs',hd,_,_⟩
 obtain⟨ms,hms,hmk,hpw⟩:=hd
 rw[List.append_nil]at hms
 have fin:resK T s' fn.results.toList (fun v=>∃v' h' nx',Ends 0 s' v v' h' nx'∧Free v'∧Fresh v'∧R v' h1 nx1)→∀w'',Shut ms w' w''→∃v,(results fn a'.tmps).run P w''=.ok v w'' ∧
   ∃u v1 h' nx' G' B',Ending.returned v=.returned u∧R v1 h' nx'∧HR G' h' nx' w''∧Evo nx G w G' w''∧nx≤nx'∧(∀c,G'.amb c→c < B')∧(∀b c,G'.ι b=some c→c < B')∧w.heap.size≤B'∧B'≤w''.heap.size∧vr (Gh.from w'' B') w'' v1 u:=by
  intro hq w'' hsh
  have hs':=hs'.shut hsh (fun r hr=>(hmk r hr).2.2.2)
  have hmw:∀c,c < w.heap.size→c ∉ ms:=fun c hc hm=>by have:=(hmk c hm).1;omega
  have ag:Agr G1 G1 h1 w' w'':=⟨by rw[hsh.size];exact Nat.le_refl _,rfl,rfl,fun _ h=>h,fun c hc=>hsh.heap c (fun hm=>(hmk c hm).2.2.1.2 hc),fun b blk c q1 q2=>hsh.heap c (fun hm=>(hmk c hm).2.2.1.1 b q2),fun b c m _ hm=>hsh.dead c m hm⟩
  have he:=ht.evo
  have he:Evo nx G w G1 w'':=⟨hsh.os.trans he.os,hsh.tape.trans he.tape,hsh.output.trans he.output,by rw[hsh.size];exact he.size,he.B,he.amb,fun c hc=>(hsh.heap c (hmw c (hr.amb_lt c hc))).trans (he.keep c hc),
   fun c m hm=>hsh.dead c m (he.csz c m hm),he.ids,fun c hc hn=>(hsh.heap c (hmw c hc)).trans (he.keepu c hc hn),he.ambn,he.idn⟩
  clear hmk
  obtain⟨vs,hK,hvs⟩:=resL_out (N:=fn.ntmps) hT hq
  obtain⟨us,hus,hvrs⟩:=hvs G' a' w'' hs'
  have hres:(results fn a'.tmps).run P w''=.ok (if h:us.toArray.size=1 then us.toArray[0]else .tuple us.toArray) w'':=by
   unfold results
   rw[Array.mapM_eq_mapM_toList]
   simp only[Sem.run_bind,Sem.run_map]
   have e:(fn.results.toList.mapM fun(x:ResultVar)=>(match x with|.tmp t=>(pure (a'.tmps.getD t undef):Sem Value)|.cell a t=>do loadVar t (← asAddr (a'.tmps.getD a undef)))).run P w''=.ok us w'':=hus
   erw [e]
   rfl
  have key:∃v,vr G' w'' v (if h:us.toArray.size=1 then us.toArray[0]else .tuple us.toArray)∧∃v' h' nx',Ends 0 s' v v' h' nx'∧Free v'∧Fresh v'∧R v' h1 nx1:=by
   have hl:=hvrs.1
   split at hK
   ·rename_i v
    have h1:us.toArray.size=1:=by simpa using hl.symm
    rw[dif_pos h1]
    have h1':0 < us.length:=by simp at h1;omega
    exact⟨v,by simpa using hvrs.2 0 v us[0] rfl (List.getElem?_eq_getElem h1'),hK⟩
   ·rename_i hne
    have h1:¬ us.toArray.size=1:=by
     intro h1
     have h1':vs.length=1:=by rw[hl];simpa using h1
     obtain⟨v,rfl⟩:=List.length_eq_one_iff.1 h1'
     exact hne v rfl
    rw[dif_neg h1]
    exact⟨.tup vs,.tup vs us hvrs.1 hvrs.2,hK⟩
  obtain⟨v,hvr,v',h',nx',hfin,hfree,hfresh,hR⟩:=key
  obtain⟨G3,q1,q2,q3,q4⟩:=hfin G' w'' _ hs'.hr (Nat.zero_le _) hvr
  have hB3:G3.B=G'.B:=q3.B
  refine⟨_,hres,_,v',h1,nx1,G1,G'.B,rfl,hR,ag.hr ht.hr,he,ht.nx,ht.amb,ht.lt,ht.B,hs'.hr.B_le,?_⟩
  exact hfree _ _ _ _ _ (hfresh _ _ _ (imm (Gh.from w'' G'.B) w'') _ (fun a u hi=>⟨hi.1,⟨by have:=(hi.2.2.1 rfl).1;rw[hB3]at this;exact this,q1.amb_lt _ hi.2.1⟩,fun _=>⟨by have:=(hi.2.2.1 rfl).1;rw[hB3]at this;exact this,(hi.2.2.1 rfl).2⟩,hi.2.2.2⟩) q2)
 cases e' with
 | normal=>show LeavesInM _ _ _ _ _ _ a'.defers _ _;rw[hms];exact leaves_marks (fun r hr=>(hmk r hr).2.1) hpw (fin hq)
 | ret=>show LeavesInM _ _ _ _ _ _ a'.defers _ _;rw[hms];exact leaves_marks (fun r hr=>(hmk r hr).2.1) hpw (fin hq)
 | exit id=>exact hq.elim
 | goto id=>exact hq.elim
theorem vc_join (hT:TabOk P T) (hm:P.follows .mixedOrders=true) (hF:FW F) {rd:Bool} (hrd:rd=false→F.round=none) {base:Nat} {x y:Code} {s:St} {Q:Ex→St→Prop} {S:Type} (st:S→St) (h:vcg P T N base rd x s (thenK (fun s'=>∃i,Wk base N s' (st i)) Q)) (h2:∀i,VC P F N base y (st i) Q):VC P F N base (.seq x y) s Q:=
 vc_seq ((vcg_ok hT hm hF hrd h).mono fun e s' hq=>by
  cases e with
  | normal=>
   obtain⟨i,hw⟩:=hq
   exact vc_weak hw (h2 i)
  | exit id=>exact hq
  | goto id=>exact hq
  | ret=>exact hq)
end
end
section
open Go.Proofs.Tryz (prog)
attribute [local irreducible] CallV RoundV aggK
structure SelfL where
 sys:UInt32
 id:UInt32
 addr:UInt32
deriving DecidableEq
def cellsSf (s:SelfL):List V:=[cW s.sys,cW s.id,cW s.addr]
def encSf (s:SelfL):V:=.agg (cellsSf s)
theorem encSf_free (s:SelfL):Free (encSf s):=.agg (by intro v hv;simp[cellsSf]at hv;rcases hv with rfl|rfl|rfl<;>exact .int)
instance {s}:FreeI (encSf s):=⟨⟨encSf_free s⟩⟩
def cellsOut (s:SelfL) (pe:Peer) (pol:Policy) (m:List (Prefix × Attrs)):List V:=
 [cW s.sys,cW s.id,cW s.addr,cW pe.sys,cW pe.id,cW pe.addr,.bool pe.inner,encRus false pol.rules,.bool pol.els,.imap false (esA m)]
theorem cellsOut_free (s:SelfL) (pe:Peer) (pol:Policy) (m:List (Prefix × Attrs)):∀v∈cellsOut s pe pol m,Free v:=by
 intro v hv
 simp only[cellsOut,List.mem_cons,List.not_mem_nil,or_false]at hv
 rcases hv with rfl|rfl|rfl|rfl|rfl|rfl|rfl|rfl|rfl|rfl<;>first|exact .int|exact .bool|exact .sl (rowsRu_free _)|exact imapA_free _
instance {s pe pol m}:FreeLI (cellsOut s pe pol m):=⟨⟨cellsOut_free s pe pol m⟩⟩
theorem cloneO_pure (fr fr':Bool) (es:List (V × V)):PCon prog 48 [.imap fr es] (.imap fr' es):=by
 refine pcon_calls (fn:=Go.Proofs.Tryz.f48) Go.Proofs.Tryz.func48 rfl (by decide) fun G w us hr hv=>?_
 obtain⟨u,rfl,hu⟩:=vrs_one hv
 obtain⟨c,arr,clk,rfl,hh,hok,hl,hkv⟩:=imap_out hu
 refine(AnyW.maps_Clone Go.Proofs.Tryz.cloneMapO c arr clk w hh).mono ?_
 rintro e w' ⟨rfl,rfl⟩
 have he:=clone_evo (.map arr clk) hr
 have hd:∀b,0≤b→G.ι b=none:=fun b h=>hr.dom b h
 have hlt:=(Array.getElem?_eq_some_iff.1 (alloc_at w (.map arr clk))).1
 have hB:Below w.heap.size w (w.alloc (.map arr clk)):=(Below.refl _ w).alloc (Nat.le_refl _) _
 have up:∀{v:V} {x:Value},vr G w v x→vr (G.more w (w.alloc (.map arr clk))) (w.alloc (.map arr clk)) v x:=fun h=>
  VR.mono (fun b c h=>by rw[hr.dom b (Nat.zero_le _)]at h;cases h) he.csz (fun fr a u hi=>⟨(he.imm hi).1,.inl hi.2.1,(he.imm hi).2.2⟩) h
 refine⟨_,rfl,hB,.imap fr' es w.heap.size arr clk ⟨rd_map.2 (alloc_at _ _),.inr ⟨Nat.le_refl _,hlt⟩,fun _=>⟨hr.B_le,?_⟩,fun h=>by cases h⟩ hok hl (fun j kv e h1 h2=>up (hkv j kv e h1 h2).1) (fun j kv e h1 h2=>up (hkv j kv e h1 h2).2)⟩
 simp only[World.frozen?,mAddr]
 rw[alloc_at]
abbrev varOut (s:SelfL) (pe:Peer) (pol:Policy) (m:List (Prefix × Attrs)):Option Blk:=some (.var true 97 (cellsOut s pe pol m))
def OutC (f:FuncId) (args:List V) (C C':List V) (R:V→Prop):Prop:=
 CallV prog f args [(0,some (.var true 97 C))] 1 (fun v h nx=>R v∧h=[(0,some (.var true 97 C'))]∧nx=1)
theorem callV_out {f:FuncId} {args args0:List V} {C C':List V} {R:V→Prop} {h:Heap} {nx b:Nat} {K:V→Heap→Nat→Prop} (hc:OutC f args0 C C' R) (hb:hget h b=some (.var true 97 C))
  (hC:∀v∈C,Free v) (hC':∀v∈C',Free v) (ha:LeL h nx (fun _=>b) 1 [] args args0) (hR:∀v,R v→Free v∧K v ((b,some (.var true 97 C')) :: h) nx):CallV prog f args h nx K:=by
 refine callV_ptr (R:=fun v c=>R v∧c=C') (hc.mono ?_) hb hC ha ?_
 ·rintro v h' nx' ⟨h1,rfl,rfl⟩
  exact⟨C',⟨h1,rfl⟩,rfl,rfl⟩
 ·rintro v c ⟨h1,rfl⟩
  exact⟨(hR v h1).1,hC',(hR v h1).2⟩
theorem ocopied_ok (fr:Bool) (p:Policy) (hl:p.rules.length≤1000):PCon prog 34 [encPo fr p] (encPo false p):=by
 have hc:=cloneRu_ok fr p.rules hl
 refine callV_of (fn:=Go.Proofs.Tryz.f34) (body:=_) tab_ok mixed rfl rfl (by decide) (by simp[Go.Proofs.Tryz.f34]) ?_
 conv=>whnf
 refine⟨_,[],fun h nx _=>pureV_pure hc ⟨.fr rfl,trivial⟩,by simp,?_⟩
 conv=>whnf
 refine⟨by kernel_rfl,?_⟩
 conv=>whnf
 exact(Ends.pure [] (by repeat' (first|exact True.intro|exact .aggL ⟨.fresh_off (.fr rfl),.fr rfl,trivial⟩|exact .A|exact LeL.fr rfl|refine .tupL ?_|refine .aggL ?_|refine⟨?_,?_⟩)) (by simp))
theorem onone_ok (s:SelfL) (pe:Peer) (pol:Policy) (m:List (Prefix × Attrs)):OutC 37 [.ptr 0 0] (cellsOut s pe pol m) (cellsOut s pe pol m) (·=.bool false):=by
 unfold OutC
 refine callV_of (fn:=Go.Proofs.Tryz.f37) (body:=_) tab_ok mixed rfl rfl (by decide) (by simp[Go.Proofs.Tryz.f37]) ?_
 conv=>whnf
 exact⟨_,_,_,(Ends.all id [] (by repeat' (first|exact LHa|exact LeL.freeV (cellsOut_free s pe pol m)|exact .A|exact LeL.fr rfl|exact LHb|refine Or.inl ⟨by simp,_,rfl,?_⟩|exact Or.inr ⟨by simp,_,_,_,_,rfl⟩|refine⟨rfl,rfl,rfl,rfl,rfl,rfl,?_⟩|refine⟨?_,?_⟩)) (fun _ _ _ _ h=>h) (fun _ _=>rfl) (by omega) (by simp)),rfl,rfl,rfl⟩
theorem nought_ok (fr:Bool) (l:List UInt32):PCon prog 32 [encW fr l] (.bool (!l.all (· != 0))):=by
 have hc:=contains_ok fr l 0
 refine callV_of (fn:=Go.Proofs.Tryz.f32) (body:=_) tab_ok mixed rfl rfl (by decide) (by simp[Go.Proofs.Tryz.f32]) ?_
 conv=>whnf
 refine callV_pure hc ⟨.fr rfl,.fr rfl,trivial⟩ ?_
 conv=>whnf
 exact(Ends.pA)
theorem oright_ok (fr:Bool) (r:Route):PCon prog 45 [encRt fr r] (.bool (prefOk r.pfx && rightA r.attrs)):=by
 have h1:=uRight_ok r.pfx
 have h2:=check_ok fr r.attrs
 refine callV_of (fn:=Go.Proofs.Tryz.f45) (body:=_) tab_ok mixed rfl rfl (by decide) (by simp[Go.Proofs.Tryz.f45]) ?_
 conv=>whnf
 refine callV_pure h1 ⟨.fr rfl,trivial⟩ ?_
 cases hp:prefOk r.pfx with
 | false=>
  conv=>whnf
  exact(Ends.pA)
 | true=>
  conv=>whnf
  refine callV_pure h2 ⟨.fr rfl,trivial⟩ ?_
  cases hr:rightA r.attrs with
  | false=>
   rw[checkA,hr]
   conv=>whnf
   exact(Ends.pA)
  | true=>
   rw[checkA,hr]
   conv=>whnf
   exact(Ends.pA)
def newO (s:SelfL) (pe:Peer) (pol:Policy):Bool:=decide (s.id ≠ 0)&& decide (s.addr ≠ 0)&& peerB s.sys pe && decide (checkP pol=0)
theorem newO_out {s:SelfL} {pe:Peer} {pol:Policy} (h:newO s pe pol=true):[s.sys,s.id,s.addr,pe.sys,pe.id,pe.addr].all (· != 0)=true∧pe.inner=decide (pe.sys=s.sys)∧checkP pol=0:=by
 simp only[newO,peerB,Bool.and_eq_true,decide_eq_true_eq]at h
 obtain⟨⟨⟨h1,h2⟩,⟨⟨⟨h3,h4⟩,h5⟩,h6⟩,h7⟩,h8⟩:=h
 refine⟨by simp[*],by simpa using h7,h8⟩
theorem newO_ok (s:SelfL) (pe:Peer) (pol:Policy) (h:newO s pe pol=true):CallV prog 11 [encSf s,encPe pe,encPo false pol] [] 0 (fun v h nx=>v=.tup [.ptr 0 0,.int .i64 0]∧h=[(0,varOut s pe pol [])]∧nx=1):=by
 obtain⟨h1,h2,h3⟩:=newO_out h
 have rc:=check23_ok false pol
 rw[h3]at rc
 have cp:=ocopied_ok false pol (by have:=pol_small h3;omega)
 have hn:=nought_ok false [s.sys,s.id,s.addr,pe.sys,pe.id,pe.addr]
 rw[h1]at hn
 have e5:(pe.inner != ((pe.sys.toNat:Int) == s.sys.toNat))=false:=by rw[beqW,h2];simp
 refine callV_of (fn:=Go.Proofs.Tryz.f11) (body:=_) tab_ok mixed rfl rfl (by decide) (by simp[Go.Proofs.Tryz.f11]) ?_
 conv=>whnf
 refine callV_lend [3] hn ⟨.fresh_off (LeV.freezeR (by simp) rfl (by simp) (.free (rowsW_free [s.sys,s.id,s.addr,pe.sys,pe.id,pe.addr]))),trivial⟩ (by intro v hv;simp at hv;subst hv;exact encW_cold _) (one_none rfl) .bool ?_
 conv=>whnf
 rw[e5]
 conv=>whnf
 refine callV_pure rc ⟨.fr rfl,trivial⟩ ?_
 conv=>whnf
 refine⟨_,[],fun h nx _=>pureV_pure cp ⟨.fr rfl,trivial⟩,by simp,?_⟩
 conv=>whnf
 refine⟨by kernel_rfl,?_⟩
 conv=>whnf
 exact⟨.tup [.ptr 0 0,.int .i64 0],[(0,varOut s pe pol [])],1,(Ends.all (renOf [(0,5)]) [4] (by repeat' (first|exact LHa|exact Or.inl ⟨by decide,_,rfl,id,rfl,.fr rfl,.fr rfl,.fr rfl,.fr rfl,.fr rfl,.fr rfl,.fr rfl,.fr rfl,.fr rfl,LeV.freezeM (by simp) rfl rfl (by simp),trivial⟩|exact .tupL ⟨.ptr rfl (by omega),.fr rfl,trivial⟩|exact .A|exact LeL.fr rfl|exact LHb|refine Or.inl ⟨by simp,_,rfl,?_⟩|exact Or.inr ⟨by simp,_,_,_,_,rfl⟩|refine⟨rfl,rfl,rfl,rfl,rfl,rfl,?_⟩|refine⟨?_,?_⟩)) (show ∀b∈([0]:List Nat),∀b'∈([0]:List Nat),(renOf [(0,5)]) b=(renOf [(0,5)]) b'→b=b' by decide) (fun _ h=>by omega) (by omega) (by intro z hz;simp only[List.mem_cons,List.not_mem_nil,or_false]at hz;rcases hz with rfl<;>exact ne_none_of rfl)),rfl,rfl,rfl⟩
theorem newO_bad (s:SelfL) (pe:Peer) (pol:Policy) (h:newO s pe pol=false):PCon prog 11 [encSf s,encPe pe,encPo false pol] (.tup [.nilp,.int .i64 2]):=by
 have rc:=check23_ok false pol
 have hn:=nought_ok false [s.sys,s.id,s.addr,pe.sys,pe.id,pe.addr]
 refine callV_of (fn:=Go.Proofs.Tryz.f11) (body:=_) tab_ok mixed rfl rfl (by decide) (by simp[Go.Proofs.Tryz.f11]) ?_
 conv=>whnf
 refine callV_lend [3] hn ⟨.fresh_off (LeV.freezeR (by simp) rfl (by simp) (.free (rowsW_free [s.sys,s.id,s.addr,pe.sys,pe.id,pe.addr]))),trivial⟩ (by intro v hv;simp at hv;subst hv;exact encW_cold _) (one_none rfl) .bool ?_
 cases h1:[s.sys,s.id,s.addr,pe.sys,pe.id,pe.addr].all (· != 0)with
 | false=>
  conv=>whnf
  exact(Ends.pA)
 | true=>
 conv=>whnf
 cases e5:(pe.inner != ((pe.sys.toNat:Int) == s.sys.toNat))with
 | true=>
  conv=>whnf
  exact(Ends.pA)
 | false=>
 conv=>whnf
 refine callV_pure rc ⟨.fr rfl,trivial⟩ ?_
 have hc:checkP pol ≠ 0:=by
  intro hc
  have:newO s pe pol=true:=by
   have e6:pe.inner=decide (pe.sys=s.sys):=by
    rw[beqW]at e5
    simpa using e5
   simp only[List.all_cons,List.all_nil,Bool.and_eq_true,bne_iff_ne,ne_eq]at h1
   obtain⟨q1,q2,q3,q4,q5,q6,_⟩:=h1
   simp[*,newO,peerB,hc]
  rw[this]at h;cases h
 conv=>whnf
 rw[show(checkP pol != 0)=true by simp[hc]]
 conv=>whnf
 exact(Ends.pA)
end
section
open Go.Proofs.Tryz (prog)
attribute [local irreducible] CallV RoundV aggK
theorem encU_cld (u:Upd):Cold (encU false u):=.agg (by
 intro v hv
 rcases List.mem_cons.1 hv with rfl|hv
 ·exact encPs_cold _
 rcases List.mem_cons.1 hv with rfl|hv
 ·exact encPs_cold _
 simp only[cellsA,List.mem_cons,List.not_mem_nil,or_false]at hv
 rcases hv with rfl|rfl|rfl|rfl|rfl|rfl|rfl|rfl<;>first|exact .int|exact .bool|exact encLegs_cold _|exact encW_cold _)
def noPe:Peer:=⟨0,0,0,false⟩
def ownR (r:Route):Bool:=decide (r.peer=noPe)
def sayM (own inner:Bool) (a:Attrs):Attrs:=
 if inner then(if a.hasPref then a else { a with hasPref:=true,pref:=100 })
 else { a with hasPref:=false,pref:=0,hasMed:=a.hasMed && own,med:=if a.hasMed && own then a.med else 0 }
def stepS (s:SelfL) (pe:Peer) (pol:Policy) (r:Route) (a:Attrs):Nat→Option Attrs
 | 0=>if prefOk r.pfx && rightA r.attrs then some a else none
 | 1=>if !decide (r.peer.sys=pe.sys) || !decide (r.peer.id=pe.id) || !decide (r.peer.addr=pe.addr)then some a else none
 | 2=>if ownR r || !pe.inner || !r.peer.inner then some a else none
 | 3=>some (sayM (ownR r) pe.inner a)
 | 4=>if(byR pol s.sys r.pfx a).2 then some (byR pol s.sys r.pfx a).1 else none
 | 5=>if pe.inner then some a else if prepE a s.sys 1=0 then some { prepA a s.sys 1 with next:=s.addr } else none
 | _=>if checkU ⟨[],[r.pfx],a⟩=0 then some a else none
def sayK (s:SelfL) (pe:Peer) (pol:Policy) (r:Route):Nat→Option Attrs
 | 0=>some r.attrs
 | k + 1=>(sayK s pe pol r k).bind fun a=>stepS s pe pol r a k
def sayO (s:SelfL) (pe:Peer) (pol:Policy) (r:Route):Option Attrs:=sayK s pe pol r 7
theorem sayK_none {s:SelfL} {pe:Peer} {pol:Policy} {r:Route}:∀{n k:Nat},sayK s pe pol r k=none→sayK s pe pol r (k + n)=none
 | 0,_,h=>h
 | n + 1,k,h=>by
  show(sayK s pe pol r (k + n)).bind _=none
  rw[sayK_none (n:=n) h]
  rfl
theorem right_sf {a:Attrs} (h:rightA a=true):smallA a∧fewA a=true:=by
 simp only[rightA,pathOk,legOk,Bool.and_eq_true,decide_eq_true_eq,List.all_eq_true]at h
 obtain⟨⟨⟨⟨⟨⟨_,h1,h2⟩,_⟩,_⟩,_⟩,h3⟩,_⟩:=h
 have hp:∀p∈a.path,p.ns.length≤32:=fun p hp=>(h2 p hp).1.1.2
 refine⟨⟨by omega,fun p h=>by have:=hp p h;omega,by omega⟩,?_⟩
 simp only[fewA,Bool.and_eq_true,decide_eq_true_eq,List.all_eq_true]
 exact⟨⟨fun p h=>by have:=hp p h;omega,by omega⟩,by omega⟩
theorem sayK_few {s:SelfL} {pe:Peer} {pol:Policy} {r:Route} {a:Attrs} (h:sayK s pe pol r 6=some a):fewA a=true:=by
 have e6:sayK s pe pol r 6=(sayK s pe pol r 5).bind fun a=>if pe.inner then some a else if prepE a s.sys 1=0 then some { prepA a s.sys 1 with next:=s.addr } else none:=rfl
 have e5:sayK s pe pol r 5=(sayK s pe pol r 4).bind fun a=>if(byR pol s.sys r.pfx a).2 then some (byR pol s.sys r.pfx a).1 else none:=rfl
 rw[e6]at h
 cases h5:sayK s pe pol r 5 with
 | none=>rw[h5]at h;cases h
 | some b=>
  have hb:rightA b=true:=by
   rw[e5]at h5
   cases h4:sayK s pe pol r 4 with
   | none=>rw[h4]at h5;cases h5
   | some c=>
    rw[h4]at h5
    simp only[Option.bind_some]at h5
    split at h5
    ·rename_i hc
     cases h5
     unfold byR at hc ⊢
     split
     ·rename_i he
      rw[if_pos he]at hc;cases hc
     ·rename_i he
      rw[if_neg he]at hc
      exact by_right24 (by simpa using he) hc
    ·cases h5
  rw[h5]at h
  simp only[Option.bind_some]at h
  split at h
  ·cases h;exact(right_sf hb).2
  ·split at h
   ·rename_i hp
    cases h
    exact(right_sf (prep_fine hp).2.2.2.1).2
   ·cases h
def rowsF:List (List V):=[[.fn (.func 72) [] [.ptr 5 0]],[.fn (.func 73) [] [.ptr 5 0,.ptr 4 0]],[.fn (.func 74) [] [.ptr 7 0,.ptr 4 0,.ptr 5 0]],[.fn (.func 75) [] [.ptr 4 0,.ptr 6 0,.ptr 7 0]],[.fn (.func 76) [] [.ptr 4 0,.ptr 5 0,.ptr 6 0]],[.fn (.func 78) [] [.ptr 4 0,.ptr 6 0]],[.fn (.func 80) [] [.ptr 5 0,.ptr 6 0]]]
theorem rowsF_le {h:Heap} {nx nx':Nat} {Z:List Nat} (hn:7 < nx'):LeR h nx id nx' Z rowsF rowsF:=
 ⟨⟨.fnL trivial ⟨.ptr rfl (by omega),trivial⟩,trivial⟩,⟨.fnL trivial ⟨.ptr rfl (by omega),.ptr rfl (by omega),trivial⟩,trivial⟩,⟨.fnL trivial ⟨.ptr rfl (by omega),.ptr rfl (by omega),.ptr rfl (by omega),trivial⟩,trivial⟩,⟨.fnL trivial ⟨.ptr rfl (by omega),.ptr rfl (by omega),.ptr rfl (by omega),trivial⟩,trivial⟩,⟨.fnL trivial ⟨.ptr rfl (by omega),.ptr rfl (by omega),.ptr rfl (by omega),trivial⟩,trivial⟩,⟨.fnL trivial ⟨.ptr rfl (by omega),.ptr rfl (by omega),trivial⟩,trivial⟩,⟨.fnL trivial ⟨.ptr rfl (by omega),.ptr rfl (by omega),trivial⟩,trivial⟩,trivial⟩
theorem bneW (x y:UInt32):((x.toNat:Int) != (y.toNat:Int))=!decide (x=y):=by rw[bne,beqW]
theorem says_ok (s:SelfL) (pe:Peer) (pol:Policy) (m:List (Prefix × Attrs)) (r:Route) (hs:smallA r.attrs) :
  OutC 14 [.ptr 0 0,encRt false r] (cellsOut s pe pol m) (cellsOut s pe pol m) (·=optV true (sayO s pe pol r)):=by
 have hcp:=copy_pure false r.attrs hs.1 hs.2.1 hs.2.2
 unfold OutC
 refine callV_of (fn:=Go.Proofs.Tryz.f14) (body:=_) tab_ok mixed rfl rfl (by decide) (by simp[Go.Proofs.Tryz.f14]) ?_
 conv=>whnf
 refine callV_out (onone_ok s pe pol m) rfl (cellsOut_free _ _ _ _) (cellsOut_free _ _ _ _) ⟨.ptr rfl (by omega),trivial⟩ ?_
 rintro v rfl
 refine⟨.bool,?_⟩
 show _
 conv=>whnf
 refine callV_pure hcp ⟨.fr rfl,trivial⟩ ?_
 conv=>whnf
 refine callV_of (fn:=Go.Proofs.Tryz.f39) (body:=_) tab_ok mixed rfl rfl (by decide) (by simp[Go.Proofs.Tryz.f39]) ?_
 conv=>whnf
 refine eqlPe r.peer noPe ?_
 conv=>whnf
 refine⟨_,_,_,Ends.here,?_⟩
 conv=>whnf
 intro _
 conv=>whnf
 refine vcg_loop tab_ok mixed (fun q:{q:Nat × Attrs // q.1≤7∧sayK s pe pol r q.1=some q.2}=>⟨[(3,.ptr 1 0),(4,.ptr 2 0),(6,.ptr 3 0),(17,.osl 8 1 0 7),(18,.int .i64 7),(19,cI q.1.1)],[(0,varOut s pe pol m),(1,some (.var true 37 (cellsRt false r))),(2,some (.var true 35 zeroC)),(3,some (.var true 35 (cellsA true q.1.2))),(4,some (.var true 41 [.ptr 0 0])),(5,some (.var true 37 (cellsRt false r))),(6,some (.var true 103 [.ptr 3 0])),(7,some (.var true 4 [.bool (ownR r)])),(8,some (.arr true true 40 1 rowsF))],9⟩) (fun q=>7 - q.1.1) ⟨(0,r.attrs),by omega,rfl⟩ (Wk.i (by repeat' (first|exact LHa|exact⟨id,id,rfl,rfl,LeR.out (rowsF_le (by omega))⟩|exact LeL.freeV (cellsOut_free s pe pol m)|exact LeL.freeV (cellsRt_free false r)|exact .A|exact LeL.fr rfl|exact LHb|refine Or.inl ⟨by simp,_,rfl,?_⟩|exact Or.inr ⟨by simp,_,_,_,_,rfl⟩|refine⟨rfl,rfl,rfl,rfl,rfl,rfl,?_⟩|refine⟨?_,?_⟩)) (by omega)) (fun q=>?_)
 obtain⟨⟨k,a⟩,hk,hq⟩:=q
 have hk:k≤7:=hk
 have hq:sayK s pe pol r k=some a:=hq
 have hk':k=0∨k=1∨k=2∨k=3∨k=4∨k=5∨k=6∨k=7:=by omega
 rcases hk' with rfl|rfl|rfl|rfl|rfl|rfl|rfl|rfl
 ·skip
  conv=>whnf
  refine⟨rfl,⟨by simp,by simp⟩,?_⟩
  conv=>whnf
  refine⟨rfl,_,rfl,?_⟩
  conv=>whnf
  refine callV_of (fn:=Go.Proofs.Tryz.f72) (body:=_) tab_ok mixed rfl rfl (by decide) (by simp[Go.Proofs.Tryz.f72]) ?_
  conv=>whnf
  refine callV_pure (oright_ok false r) ⟨.fr rfl,trivial⟩ ?_
  conv=>whnf
  refine⟨_,_,_,Ends.here,?_⟩
  conv=>whnf
  cases hc:prefOk r.pfx && rightA r.attrs with
  | true=>
   conv=>whnf
   exact⟨⟨(1,a),by simp only;omega,by show(sayK s pe pol r (1 - 1)).bind _=_;rw[hq];(simp only[Option.bind_some,stepS,hc,if_true])⟩,(Wk.i (by repeat' (first|exact LHa|exact⟨id,id,rfl,rfl,LeR.out (rowsF_le (by omega))⟩|exact LeL.freeV (cellsOut_free s pe pol m)|exact LeL.freeV (cellsRt_free false r)|exact .A|exact LeL.fr rfl|exact LHb|refine Or.inl ⟨by simp,_,rfl,?_⟩|exact Or.inr ⟨by simp,_,_,_,_,rfl⟩|refine⟨rfl,rfl,rfl,rfl,rfl,rfl,?_⟩|refine⟨?_,?_⟩)) (by omega)),by simp only;omega⟩
  | false=>
   have hn:sayO s pe pol r=none:=sayK_none (n:=6) (k:=1) (by show(sayK s pe pol r (1 - 1)).bind _=_;rw[hq];(simp[stepS,hc]))
   conv=>whnf
   exact⟨.tup [encA true noA,.bool false],[(0,varOut s pe pol m)],1,(Ends.all id [] (by repeat' (first|exact LHa|exact LeL.freeV (cellsOut_free s pe pol m)|exact .tupL ⟨.noA,.fr rfl,trivial⟩|exact .A|exact LeL.fr rfl|exact LHb|refine Or.inl ⟨by simp,_,rfl,?_⟩|exact Or.inr ⟨by simp,_,_,_,_,rfl⟩|refine⟨rfl,rfl,rfl,rfl,rfl,rfl,?_⟩|refine⟨?_,?_⟩)) (fun _ _ _ _ h=>h) (fun _ _=>rfl) (by omega) (by simp)),(by rw[hn];rfl),rfl,rfl⟩
 ·skip
  conv=>whnf
  refine⟨rfl,⟨by simp,by simp⟩,?_⟩
  conv=>whnf
  refine⟨rfl,_,rfl,?_⟩
  conv=>whnf
  refine callV_of (fn:=Go.Proofs.Tryz.f73) (body:=_) tab_ok mixed rfl rfl (by decide) (by simp[Go.Proofs.Tryz.f73]) ?_
  conv=>whnf
  rw[bneW]
  cases h1:decide (r.peer.sys=pe.sys)with
  | false=>
   conv=>whnf
   refine⟨by kernel_rfl,?_⟩
   conv=>whnf
   refine⟨_,_,_,Ends.here,?_⟩
   conv=>whnf
   exact⟨⟨(2,a),by simp only;omega,by show(sayK s pe pol r (2 - 1)).bind _=_;rw[hq];(simp[stepS,h1])⟩,(Wk.i (by repeat' (first|exact LHa|exact⟨id,id,rfl,rfl,LeR.out (rowsF_le (by omega))⟩|exact LeL.freeV (cellsOut_free s pe pol m)|exact LeL.freeV (cellsRt_free false r)|exact .A|exact LeL.fr rfl|exact LHb|refine Or.inl ⟨by simp,_,rfl,?_⟩|exact Or.inr ⟨by simp,_,_,_,_,rfl⟩|refine⟨rfl,rfl,rfl,rfl,rfl,rfl,?_⟩|refine⟨?_,?_⟩)) (by omega)),by simp only;omega⟩
  | true=>
  conv=>whnf
  rw[bneW]
  cases h2:decide (r.peer.id=pe.id)with
  | false=>
   conv=>whnf
   refine⟨by kernel_rfl,?_⟩
   conv=>whnf
   refine⟨_,_,_,Ends.here,?_⟩
   conv=>whnf
   exact⟨⟨(2,a),by simp only;omega,by show(sayK s pe pol r (2 - 1)).bind _=_;rw[hq];(simp[stepS,h2])⟩,(Wk.i (by repeat' (first|exact LHa|exact⟨id,id,rfl,rfl,LeR.out (rowsF_le (by omega))⟩|exact LeL.freeV (cellsOut_free s pe pol m)|exact LeL.freeV (cellsRt_free false r)|exact .A|exact LeL.fr rfl|exact LHb|refine Or.inl ⟨by simp,_,rfl,?_⟩|exact Or.inr ⟨by simp,_,_,_,_,rfl⟩|refine⟨rfl,rfl,rfl,rfl,rfl,rfl,?_⟩|refine⟨?_,?_⟩)) (by omega)),by simp only;omega⟩
  | true=>
  conv=>whnf
  rw[bneW]
  cases h3:decide (r.peer.addr=pe.addr)with
  | false=>
   conv=>whnf
   refine⟨by kernel_rfl,?_⟩
   conv=>whnf
   refine⟨_,_,_,Ends.here,?_⟩
   conv=>whnf
   exact⟨⟨(2,a),by simp only;omega,by show(sayK s pe pol r (2 - 1)).bind _=_;rw[hq];(simp[stepS,h3])⟩,(Wk.i (by repeat' (first|exact LHa|exact⟨id,id,rfl,rfl,LeR.out (rowsF_le (by omega))⟩|exact LeL.freeV (cellsOut_free s pe pol m)|exact LeL.freeV (cellsRt_free false r)|exact .A|exact LeL.fr rfl|exact LHb|refine Or.inl ⟨by simp,_,rfl,?_⟩|exact Or.inr ⟨by simp,_,_,_,_,rfl⟩|refine⟨rfl,rfl,rfl,rfl,rfl,rfl,?_⟩|refine⟨?_,?_⟩)) (by omega)),by simp only;omega⟩
  | true=>
  conv=>whnf
  refine⟨by kernel_rfl,?_⟩
  conv=>whnf
  refine⟨_,_,_,Ends.here,?_⟩
  conv=>whnf
  have hn:sayO s pe pol r=none:=sayK_none (n:=5) (k:=2) (by show(sayK s pe pol r (2 - 1)).bind _=_;rw[hq];(simp only[Option.bind_some,stepS,h1,h2,h3];rfl))
  conv=>whnf
  exact⟨.tup [encA true noA,.bool false],[(0,varOut s pe pol m)],1,(Ends.all id [] (by repeat' (first|exact LHa|exact LeL.freeV (cellsOut_free s pe pol m)|exact .tupL ⟨.noA,.fr rfl,trivial⟩|exact .A|exact LeL.fr rfl|exact LHb|refine Or.inl ⟨by simp,_,rfl,?_⟩|exact Or.inr ⟨by simp,_,_,_,_,rfl⟩|refine⟨rfl,rfl,rfl,rfl,rfl,rfl,?_⟩|refine⟨?_,?_⟩)) (fun _ _ _ _ h=>h) (fun _ _=>rfl) (by omega) (by simp)),(by rw[hn];rfl),rfl,rfl⟩
 ·skip
  conv=>whnf
  refine⟨rfl,⟨by simp,by simp⟩,?_⟩
  conv=>whnf
  refine⟨rfl,_,rfl,?_⟩
  conv=>whnf
  refine callV_of (fn:=Go.Proofs.Tryz.f74) (body:=_) tab_ok mixed rfl rfl (by decide) (by simp[Go.Proofs.Tryz.f74]) ?_
  conv=>whnf
  cases h1:ownR r with
  | true=>
   conv=>whnf
   refine⟨_,_,_,Ends.here,?_⟩
   conv=>whnf
   exact⟨⟨(3,a),by simp only;omega,by show(sayK s pe pol r (3 - 1)).bind _=_;rw[hq];(simp[stepS,h1])⟩,(Wk.i (by repeat' (first|exact LHa|exact⟨id,id,rfl,rfl,LeR.out (rowsF_le (by omega))⟩|exact LeL.freeV (cellsOut_free s pe pol m)|exact LeL.freeV (cellsRt_free false r)|exact .A|exact LeL.fr rfl|exact LHb|refine Or.inl ⟨by simp,_,rfl,?_⟩|exact Or.inr ⟨by simp,_,_,_,_,rfl⟩|refine⟨rfl,rfl,rfl,rfl,rfl,rfl,?_⟩|refine⟨?_,?_⟩)) (by omega)),by simp only;omega⟩
  | false=>
  conv=>whnf
  cases h2:pe.inner with
  | false=>
   conv=>whnf
   refine⟨_,_,_,Ends.here,?_⟩
   conv=>whnf
   exact⟨⟨(3,a),by simp only;omega,by show(sayK s pe pol r (3 - 1)).bind _=_;rw[hq];(simp[stepS,h2])⟩,(Wk.i (by repeat' (first|exact LHa|exact⟨id,id,rfl,rfl,LeR.out (rowsF_le (by omega))⟩|exact LeL.freeV (cellsOut_free s pe pol m)|exact LeL.freeV (cellsRt_free false r)|exact .A|exact LeL.fr rfl|exact LHb|refine Or.inl ⟨by simp,_,rfl,?_⟩|exact Or.inr ⟨by simp,_,_,_,_,rfl⟩|refine⟨rfl,rfl,rfl,rfl,rfl,rfl,?_⟩|refine⟨?_,?_⟩)) (by omega)),by simp only;omega⟩
  | true=>
  conv=>whnf
  cases h3:r.peer.inner with
  | false=>
   conv=>whnf
   refine⟨_,_,_,Ends.here,?_⟩
   conv=>whnf
   exact⟨⟨(3,a),by simp only;omega,by show(sayK s pe pol r (3 - 1)).bind _=_;rw[hq];(simp[stepS,h3])⟩,(Wk.i (by repeat' (first|exact LHa|exact⟨id,id,rfl,rfl,LeR.out (rowsF_le (by omega))⟩|exact LeL.freeV (cellsOut_free s pe pol m)|exact LeL.freeV (cellsRt_free false r)|exact .A|exact LeL.fr rfl|exact LHb|refine Or.inl ⟨by simp,_,rfl,?_⟩|exact Or.inr ⟨by simp,_,_,_,_,rfl⟩|refine⟨rfl,rfl,rfl,rfl,rfl,rfl,?_⟩|refine⟨?_,?_⟩)) (by omega)),by simp only;omega⟩
  | true=>
  conv=>whnf
  refine⟨_,_,_,Ends.here,?_⟩
  conv=>whnf
  have hn:sayO s pe pol r=none:=sayK_none (n:=4) (k:=3) (by show(sayK s pe pol r (3 - 1)).bind _=_;rw[hq];(simp only[Option.bind_some,stepS,h1,h2,h3];rfl))
  conv=>whnf
  exact⟨.tup [encA true noA,.bool false],[(0,varOut s pe pol m)],1,(Ends.all id [] (by repeat' (first|exact LHa|exact LeL.freeV (cellsOut_free s pe pol m)|exact .tupL ⟨.noA,.fr rfl,trivial⟩|exact .A|exact LeL.fr rfl|exact LHb|refine Or.inl ⟨by simp,_,rfl,?_⟩|exact Or.inr ⟨by simp,_,_,_,_,rfl⟩|refine⟨rfl,rfl,rfl,rfl,rfl,rfl,?_⟩|refine⟨?_,?_⟩)) (fun _ _ _ _ h=>h) (fun _ _=>rfl) (by omega) (by simp)),(by rw[hn];rfl),rfl,rfl⟩
 ·skip
  conv=>whnf
  refine⟨rfl,⟨by simp,by simp⟩,?_⟩
  conv=>whnf
  refine⟨rfl,_,rfl,?_⟩
  conv=>whnf
  refine callV_of (fn:=Go.Proofs.Tryz.f75) (body:=_) tab_ok mixed rfl rfl (by decide) (by simp[Go.Proofs.Tryz.f75]) ?_
  conv=>whnf
  cases hi:pe.inner with
  | true=>
   conv=>whnf
   cases hp:a.hasPref with
   | true=>
    conv=>whnf
    refine⟨_,_,_,Ends.here,?_⟩
    conv=>whnf
    exact⟨⟨(4,a),by simp only;omega,by show(sayK s pe pol r (4 - 1)).bind _=_;rw[hq];(simp[stepS,sayM,hi,hp])⟩,(Wk.i (by repeat' (first|exact LHa|exact⟨id,id,rfl,rfl,LeR.out (rowsF_le (by omega))⟩|exact LeL.freeV (cellsOut_free s pe pol m)|exact LeL.freeV (cellsRt_free false r)|exact .A|exact LeL.fr rfl|exact LHb|refine Or.inl ⟨by simp,_,rfl,?_⟩|exact Or.inr ⟨by simp,_,_,_,_,rfl⟩|refine⟨rfl,rfl,rfl,rfl,rfl,rfl,?_⟩|refine⟨?_,?_⟩)) (by omega)),by simp only;omega⟩
   | false=>
    conv=>whnf
    refine⟨by kernel_rfl,?_⟩
    conv=>whnf
    refine⟨_,_,_,Ends.here,?_⟩
    conv=>whnf
    exact⟨⟨(4,{ a with hasPref:=true,pref:=100 }),by simp only;omega,by show(sayK s pe pol r (4 - 1)).bind _=_;rw[hq];(simp[stepS,sayM,hi,hp])⟩,(Wk.i (by repeat' (first|exact LHa|exact⟨id,id,rfl,rfl,LeR.out (rowsF_le (by omega))⟩|exact LeL.freeV (cellsOut_free s pe pol m)|exact LeL.freeV (cellsRt_free false r)|exact .A|exact LeL.fr rfl|exact LHb|refine Or.inl ⟨by simp,_,rfl,?_⟩|exact Or.inr ⟨by simp,_,_,_,_,rfl⟩|refine⟨rfl,rfl,rfl,rfl,rfl,rfl,?_⟩|refine⟨?_,?_⟩)) (by omega)),by simp only;omega⟩
  | false=>
  conv=>whnf
  refine⟨by kernel_rfl,?_⟩
  conv=>whnf
  cases hm:a.hasMed with
  | false=>
   conv=>whnf
   refine⟨by kernel_rfl,?_⟩
   conv=>whnf
   refine⟨_,_,_,Ends.here,?_⟩
   conv=>whnf
   exact⟨⟨(4,{ a with hasPref:=false,pref:=0,hasMed:=false,med:=0 }),by simp only;omega,by show(sayK s pe pol r (4 - 1)).bind _=_;rw[hq];(simp[stepS,sayM,hi,hm])⟩,(Wk.i (by repeat' (first|exact LHa|exact⟨id,id,rfl,rfl,LeR.out (rowsF_le (by omega))⟩|exact LeL.freeV (cellsOut_free s pe pol m)|exact LeL.freeV (cellsRt_free false r)|exact .A|exact LeL.fr rfl|exact LHb|refine Or.inl ⟨by simp,_,rfl,?_⟩|exact Or.inr ⟨by simp,_,_,_,_,rfl⟩|refine⟨rfl,rfl,rfl,rfl,rfl,rfl,?_⟩|refine⟨?_,?_⟩)) (by omega)),by simp only;omega⟩
  | true=>
  conv=>whnf
  cases ho:ownR r with
  | false=>
   conv=>whnf
   refine⟨by kernel_rfl,?_⟩
   conv=>whnf
   refine⟨_,_,_,Ends.here,?_⟩
   conv=>whnf
   exact⟨⟨(4,{ a with hasPref:=false,pref:=0,hasMed:=false,med:=0 }),by simp only;omega,by show(sayK s pe pol r (4 - 1)).bind _=_;rw[hq];(simp[stepS,sayM,hi,hm,ho])⟩,(Wk.i (by repeat' (first|exact LHa|exact⟨id,id,rfl,rfl,LeR.out (rowsF_le (by omega))⟩|exact LeL.freeV (cellsOut_free s pe pol m)|exact LeL.freeV (cellsRt_free false r)|exact .A|exact LeL.fr rfl|exact LHb|refine Or.inl ⟨by simp,_,rfl,?_⟩|exact Or.inr ⟨by simp,_,_,_,_,rfl⟩|refine⟨rfl,rfl,rfl,rfl,rfl,rfl,?_⟩|refine⟨?_,?_⟩)) (by omega)),by simp only;omega⟩
  | true=>
  conv=>whnf
  refine⟨by kernel_rfl,?_⟩
  conv=>whnf
  refine⟨_,_,_,Ends.here,?_⟩
  conv=>whnf
  exact⟨⟨(4,{ a with hasPref:=false,pref:=0,hasMed:=true }),by simp only;omega,by show(sayK s pe pol r (4 - 1)).bind _=_;rw[hq];(simp[stepS,sayM,hi,hm,ho])⟩,(Wk.i (by repeat' (first|exact LHa|exact⟨id,id,rfl,rfl,LeR.out (rowsF_le (by omega))⟩|exact LeL.freeV (cellsOut_free s pe pol m)|exact LeL.freeV (cellsRt_free false r)|exact .A|exact LeL.fr rfl|exact LHb|refine Or.inl ⟨by simp,_,rfl,?_⟩|exact Or.inr ⟨by simp,_,_,_,_,rfl⟩|refine⟨rfl,rfl,rfl,rfl,rfl,rfl,?_⟩|refine⟨?_,?_⟩)) (by omega)),by simp only;omega⟩
 ·skip
  conv=>whnf
  refine⟨rfl,⟨by simp,by simp⟩,?_⟩
  conv=>whnf
  refine⟨rfl,_,rfl,?_⟩
  conv=>whnf
  have hby:=by_ok false true pol s.sys r.pfx a
  rw[byV_R]at hby
  refine callV_of (fn:=Go.Proofs.Tryz.f76) (body:=_) tab_ok mixed rfl rfl (by decide) (by simp[Go.Proofs.Tryz.f76]) ?_
  conv=>whnf
  refine⟨_,[],fun h nx _=>pureV_pure hby ⟨.fr rfl,.fr rfl,.fr rfl,.fr rfl,trivial⟩,by simp,?_⟩
  conv=>whnf
  refine⟨by kernel_rfl,?_⟩
  conv=>whnf
  refine⟨_,_,_,Ends.here,?_⟩
  conv=>whnf
  cases hc:(byR pol s.sys r.pfx a).2 with
  | true=>
   conv=>whnf
   exact⟨⟨(5,(byR pol s.sys r.pfx a).1),by simp only;omega,by show(sayK s pe pol r (5 - 1)).bind _=_;rw[hq];(simp[stepS,hc])⟩,(Wk.i (by repeat' (first|exact LHa|exact⟨id,id,rfl,rfl,LeR.out (rowsF_le (by omega))⟩|exact LeL.freeV (cellsOut_free s pe pol m)|exact LeL.freeV (cellsRt_free false r)|exact .A|exact LeL.fr rfl|exact LHb|refine Or.inl ⟨by simp,_,rfl,?_⟩|exact Or.inr ⟨by simp,_,_,_,_,rfl⟩|refine⟨rfl,rfl,rfl,rfl,rfl,rfl,?_⟩|refine⟨?_,?_⟩)) (by omega)),by simp only;omega⟩
  | false=>
  have hn:sayO s pe pol r=none:=sayK_none (n:=2) (k:=5) (by show(sayK s pe pol r (5 - 1)).bind _=_;rw[hq];(simp[stepS,hc]))
  conv=>whnf
  exact⟨.tup [encA true noA,.bool false],[(0,varOut s pe pol m)],1,(Ends.all id [] (by repeat' (first|exact LHa|exact LeL.freeV (cellsOut_free s pe pol m)|exact .tupL ⟨.noA,.fr rfl,trivial⟩|exact .A|exact LeL.fr rfl|exact LHb|refine Or.inl ⟨by simp,_,rfl,?_⟩|exact Or.inr ⟨by simp,_,_,_,_,rfl⟩|refine⟨rfl,rfl,rfl,rfl,rfl,rfl,?_⟩|refine⟨?_,?_⟩)) (fun _ _ _ _ h=>h) (fun _ _=>rfl) (by omega) (by simp)),(by rw[hn];rfl),rfl,rfl⟩
 ·skip
  conv=>whnf
  refine⟨rfl,⟨by simp,by simp⟩,?_⟩
  conv=>whnf
  refine⟨rfl,_,rfl,?_⟩
  conv=>whnf
  have hpp:=prepend_ok true a s.sys 1
  refine callV_of (fn:=Go.Proofs.Tryz.f78) (body:=_) tab_ok mixed rfl rfl (by decide) (by simp[Go.Proofs.Tryz.f78]) ?_
  conv=>whnf
  cases hi:pe.inner with
  | true=>
   conv=>whnf
   refine⟨_,_,_,Ends.here,?_⟩
   conv=>whnf
   exact⟨⟨(6,a),by simp only;omega,by show(sayK s pe pol r (6 - 1)).bind _=_;rw[hq];(simp[stepS,hi])⟩,(Wk.i (by repeat' (first|exact LHa|exact⟨id,id,rfl,rfl,LeR.out (rowsF_le (by omega))⟩|exact LeL.freeV (cellsOut_free s pe pol m)|exact LeL.freeV (cellsRt_free false r)|exact .A|exact LeL.fr rfl|exact LHb|refine Or.inl ⟨by simp,_,rfl,?_⟩|exact Or.inr ⟨by simp,_,_,_,_,rfl⟩|refine⟨rfl,rfl,rfl,rfl,rfl,rfl,?_⟩|refine⟨?_,?_⟩)) (by omega)),by simp only;omega⟩
  | false=>
  conv=>whnf
  refine⟨_,[],fun h nx _=>pureV_pure hpp ⟨.fr rfl,.fr rfl,.fr rfl,trivial⟩,by simp,?_⟩
  conv=>whnf
  refine⟨by kernel_rfl,?_⟩
  conv=>whnf
  refine⟨_,_,_,Ends.here,?_⟩
  conv=>whnf
  by_cases hc:prepE a s.sys 1=0
  ·rw[show(prepE a s.sys 1 == 0)=true by simp[hc]]
   conv=>whnf
   exact⟨⟨(6,{ prepA a s.sys 1 with next:=s.addr }),by simp only;omega,by show(sayK s pe pol r (6 - 1)).bind _=_;rw[hq];(simp[stepS,hi,hc])⟩,(Wk.i (by repeat' (first|exact LHa|exact⟨id,id,rfl,rfl,LeR.out (rowsF_le (by omega))⟩|exact LeL.freeV (cellsOut_free s pe pol m)|exact LeL.freeV (cellsRt_free false r)|exact .A|exact LeL.fr rfl|exact LHb|refine Or.inl ⟨by simp,_,rfl,?_⟩|exact Or.inr ⟨by simp,_,_,_,_,rfl⟩|refine⟨rfl,rfl,rfl,rfl,rfl,rfl,?_⟩|refine⟨?_,?_⟩)) (by omega)),by simp only;omega⟩
  rw[show(prepE a s.sys 1 == 0)=false by simp[hc]]
  have hn:sayO s pe pol r=none:=sayK_none (n:=1) (k:=6) (by show(sayK s pe pol r (6 - 1)).bind _=_;rw[hq];(simp[stepS,hi,hc]))
  conv=>whnf
  exact⟨.tup [encA true noA,.bool false],[(0,varOut s pe pol m)],1,(Ends.all id [] (by repeat' (first|exact LHa|exact LeL.freeV (cellsOut_free s pe pol m)|exact .tupL ⟨.noA,.fr rfl,trivial⟩|exact .A|exact LeL.fr rfl|exact LHb|refine Or.inl ⟨by simp,_,rfl,?_⟩|exact Or.inr ⟨by simp,_,_,_,_,rfl⟩|refine⟨rfl,rfl,rfl,rfl,rfl,rfl,?_⟩|refine⟨?_,?_⟩)) (fun _ _ _ _ h=>h) (fun _ _=>rfl) (by omega) (by simp)),(by rw[hn];rfl),rfl,rfl⟩
 ·skip
  conv=>whnf
  refine⟨rfl,⟨by simp,by simp⟩,?_⟩
  conv=>whnf
  refine⟨rfl,_,rfl,?_⟩
  conv=>whnf
  have hck:=ucheck_ok false ⟨[],[r.pfx],a⟩ ⟨by simp,by simp,sayK_few hq⟩
  refine callV_of (fn:=Go.Proofs.Tryz.f80) (body:=_) tab_ok mixed rfl rfl (by decide) (by simp[Go.Proofs.Tryz.f80]) ?_
  conv=>whnf
  refine⟨.int .i64 (checkU ⟨[],[r.pfx],a⟩),[(9,some (.arr true true 31 2 (rowsP [r.pfx])))],fun h nx hrd=>?_,by intro b ob hb;simp at hb;obtain⟨rfl,rfl⟩:=hb;rfl,?_⟩
  ·have h9:hget h 9=some (.arr true true 31 2 (rowsP [r.pfx])):=hrd _ _ (by simp)
   exact pureV_lend [9] hck ⟨.aggL ⟨.snil_sl,.fresh_off (LeV.freezeR (by simp) h9 (by simp) (.free (rowsP_free [r.pfx]))),cellsA_off⟩,trivial⟩ (by intro v hv;simp at hv;subst hv;exact encU_cld _) (one_none h9) .int
  conv=>whnf
  refine⟨by kernel_rfl,?_⟩
  conv=>whnf
  refine⟨_,_,_,Ends.here,?_⟩
  conv=>whnf
  by_cases hc:checkU ⟨[],[r.pfx],a⟩=0
  ·rw[show(checkU ⟨[],[r.pfx],a⟩ == 0)=true by simp[hc]]
   conv=>whnf
   exact⟨⟨(7,a),by simp only;omega,by show(sayK s pe pol r (7 - 1)).bind _=_;rw[hq];(simp[stepS,hc])⟩,(Wk.i (by repeat' (first|exact LHa|exact⟨id,id,rfl,rfl,LeR.out (rowsF_le (by omega))⟩|exact LeL.freeV (cellsOut_free s pe pol m)|exact LeL.freeV (cellsRt_free false r)|exact .A|exact LeL.fr rfl|exact LHb|refine Or.inl ⟨by simp,_,rfl,?_⟩|exact Or.inr ⟨by simp,_,_,_,_,rfl⟩|refine⟨rfl,rfl,rfl,rfl,rfl,rfl,?_⟩|refine⟨?_,?_⟩)) (by omega)),by simp only;omega⟩
  rw[show(checkU ⟨[],[r.pfx],a⟩ == 0)=false by simp[hc]]
  have hn:sayO s pe pol r=none:=sayK_none (n:=0) (k:=7) (by show(sayK s pe pol r (7 - 1)).bind _=_;rw[hq];(simp[stepS,hc]))
  conv=>whnf
  exact⟨.tup [encA true noA,.bool false],[(0,varOut s pe pol m)],1,(Ends.all id [] (by repeat' (first|exact LHa|exact LeL.freeV (cellsOut_free s pe pol m)|exact .tupL ⟨.noA,.fr rfl,trivial⟩|exact .A|exact LeL.fr rfl|exact LHb|refine Or.inl ⟨by simp,_,rfl,?_⟩|exact Or.inr ⟨by simp,_,_,_,_,rfl⟩|refine⟨rfl,rfl,rfl,rfl,rfl,rfl,?_⟩|refine⟨?_,?_⟩)) (fun _ _ _ _ h=>h) (fun _ _=>rfl) (by omega) (by simp)),(by rw[hn];rfl),rfl,rfl⟩
 ·conv=>whnf
  exact⟨.tup [encA true a,.bool true],[(0,varOut s pe pol m)],1,(Ends.all id [] (by repeat' (first|exact LHa|exact LeL.freeV (cellsOut_free s pe pol m)|exact .tupL ⟨.fr rfl,.fr rfl,trivial⟩|exact .A|exact LeL.fr rfl|exact LHb|refine Or.inl ⟨by simp,_,rfl,?_⟩|exact Or.inr ⟨by simp,_,_,_,_,rfl⟩|refine⟨rfl,rfl,rfl,rfl,rfl,rfl,?_⟩|refine⟨?_,?_⟩)) (fun _ _ _ _ h=>h) (fun _ _=>rfl) (by omega) (by simp)),(by rw[show sayO s pe pol r=some a from hq];rfl),rfl,rfl⟩
end
def goS (out:List (List Prefix)) (p:Prefix):List (List Prefix):=
 if 0 < out.length∧checkU ⟨out.getD (out.length - 1) []++ [p],[],noA⟩=0 then out.set (out.length - 1) (out.getD (out.length - 1) []++ [p])else out ++ [[p]]
def goU (l:List Prefix):List (List Prefix):=l.foldl goS []
def goneU (l:List (List Prefix)):List Upd:=l.map fun g=>⟨g,[],noA⟩
def comF (p:Prefix) (a:Attrs) (x:List Prefix × Attrs):Bool:=decide (x.2=a)&& decide (checkU ⟨[],x.1 ++ [p],a⟩=0)
def noX:List Prefix × Attrs:=([],noA)
def comS (out:List (List Prefix × Attrs)) (e:Prefix × Attrs):List (List Prefix × Attrs):=
 if out.findIdx (comF e.1 e.2) < out.length then out.set (out.findIdx (comF e.1 e.2)) ((out.getD (out.findIdx (comF e.1 e.2)) noX).1 ++ [e.1],e.2)else out ++ [([e.1],e.2)]
def comU (l:List (Prefix × Attrs)):List (List Prefix × Attrs):=l.foldl comS []
def newU (l:List (List Prefix × Attrs)):List Upd:=l.map fun x=>⟨[],x.1,x.2⟩
def goK (was now:List (Prefix × Attrs)):List Prefix:=(keysE was).filter fun p=>!decide (p∈keysE now)
def comK (was now:List (Prefix × Attrs)):List (Prefix × Attrs):=now.filter fun e=>!decide (getE was e.1=some e.2)
def updO (was now:List (Prefix × Attrs)):List Upd:=goneU (goU (goK was now))++ newU (comU (comK was now))
theorem prefsB_ge:∀l:List Prefix,l.length≤(prefsB l).length
 | []=>by simp[prefsB]
 | p :: l=>by
  have h1:=prefsB_ge l
  have h2:=(prefB_len p).1
  have e:prefsB (p :: l)=prefB p ++ prefsB l:=rfl
  rw[e,List.length_append,List.length_cons]
  omega
theorem check_lens {u:Upd} (h:checkU u=0):u.gone.length≤493∧u.new.length≤493:=by
 obtain⟨_,hl⟩:=checkU_zero h
 rw[bodyB_parts]at hl
 have h1:=prefsB_ge u.gone
 have h2:=prefsB_ge u.new
 omega
theorem check_right {p:Prefix} {a:Attrs} (h:checkU ⟨[],[p],a⟩=0):rightA a=true:=by
 obtain⟨hm,_⟩:=checkU_zero h
 have h4:=(mayU_out hm).2.2.2
 exact saidU_some (u:=⟨[],[p],a⟩) (List.cons_ne_nil p []) h4
structure GoI (n:Nat) (out:List (List Prefix)):Prop where
 len:out.length≤n
 few:∀g∈out,g.length≤500
theorem GoI.nil:GoI 0 []:=⟨by simp,by simp⟩
theorem GoI.more {n m:Nat} {out:List (List Prefix)} (h:GoI n out) (hm:n≤m):GoI m out:=⟨by have:=h.len;omega,h.few⟩
theorem GoI.step {n:Nat} {out:List (List Prefix)} (h:GoI n out) (p:Prefix):GoI (n + 1) (goS out p):=by
 unfold goS
 split
 ·rename_i hc
  have hl:=(check_lens hc.2).1
  refine⟨by have:=h.len;simp;omega,fun g hg=>?_⟩
  rcases List.mem_or_eq_of_mem_set hg with hg|rfl
  ·exact h.few g hg
  ·simp only at hl;omega
 ·refine⟨by have:=h.len;simp;omega,fun g hg=>?_⟩
  rcases List.mem_append.1 hg with hg|hg
  ·exact h.few g hg
  ·simp at hg;subst hg;simp
structure ComI (n:Nat) (out:List (List Prefix × Attrs)):Prop where
 len:out.length≤n
 few:∀x∈out,x.1.length≤500
 right:∀x∈out,rightA x.2=true
theorem ComI.nil:ComI 0 []:=⟨by simp,by simp,by simp⟩
theorem ComI.more {n m:Nat} {out:List (List Prefix × Attrs)} (h:ComI n out) (hm:n≤m):ComI m out:=⟨by have:=h.len;omega,h.few,h.right⟩
theorem com_at {out:List (List Prefix × Attrs)} {e:Prefix × Attrs} (h:out.findIdx (comF e.1 e.2) < out.length):out[out.findIdx (comF e.1 e.2)].2=e.2∧checkU ⟨[],out[out.findIdx (comF e.1 e.2)].1 ++ [e.1],e.2⟩=0:=by
 have:=List.findIdx_getElem (p:=comF e.1 e.2) (w:=h)
 simpa[comF]using this
theorem ComI.step {n:Nat} {out:List (List Prefix × Attrs)} (h:ComI n out) {e:Prefix × Attrs} (he:rightA e.2=true):ComI (n + 1) (comS out e):=by
 unfold comS
 split
 ·rename_i hc
  have hk:=com_at hc
  have hl:=(check_lens hk.2).2
  have hgd:(out.getD (out.findIdx (comF e.1 e.2)) noX)=out[out.findIdx (comF e.1 e.2)]:=by simp[List.getD,hc]
  refine⟨by have:=h.len;simp;omega,fun x hx=>?_,fun x hx=>?_⟩
  ·rcases List.mem_or_eq_of_mem_set hx with hx|rfl
   ·exact h.few x hx
   ·simp only at hl ⊢;rw[hgd];omega
  ·rcases List.mem_or_eq_of_mem_set hx with hx|rfl
   ·exact h.right x hx
   ·exact he
 ·refine⟨by have:=h.len;simp;omega,fun x hx=>?_,fun x hx=>?_⟩
  ·rcases List.mem_append.1 hx with hx|hx
   ·exact h.few x hx
   ·simp at hx;subst hx;simp
  ·rcases List.mem_append.1 hx with hx|hx
   ·exact h.right x hx
   ·simp at hx;subst hx;exact he
theorem goU_I (l:List Prefix):GoI l.length (goU l):=by
 have key:∀(l:List Prefix) (n:Nat) (out:List (List Prefix)),GoI n out→GoI (n + l.length) (l.foldl goS out):=by
  intro l
  induction l with
  | nil=>exact fun n out h=>h
  | cons p l ih=>
   intro n out h
   have:=ih (n + 1) _ (h.step p)
   rw[List.length_cons,List.foldl_cons]
   exact this.more (by omega)
 have:=key l 0 [] GoI.nil
 exact this.more (by omega)
theorem comU_I {l:List (Prefix × Attrs)} (hr:∀e∈l,rightA e.2=true):ComI l.length (comU l):=by
 have key:∀(l:List (Prefix × Attrs)) (n:Nat) (out:List (List Prefix × Attrs)),(∀e∈l,rightA e.2=true)→ComI n out→ComI (n + l.length) (l.foldl comS out):=by
  intro l
  induction l with
  | nil=>exact fun n out _ h=>h
  | cons p l ih=>
   intro n out hr h
   have:=ih (n + 1) _ (fun e he=>hr e (by simp[he])) (h.step (hr p (by simp)))
   rw[List.length_cons,List.foldl_cons]
   exact this.more (by omega)
 have:=key l 0 [] hr ComI.nil
 exact this.more (by omega)
def nowL (s:SelfL) (pe:Peer) (pol:Policy) (l:List Route):List (Prefix × Attrs):=l.filterMap fun r=>(sayO s pe pol r).map fun a=>(r.pfx,a)
def rightR (r:Route):Bool:=prefOk r.pfx && rightA r.attrs
def pfxs (l:List Route):List Prefix:=l.map fun r=>r.pfx
def okT (l:List Route):Bool:=l.all rightR && decide (pfxs l).Nodup
theorem sayO_right {s:SelfL} {pe:Peer} {pol:Policy} {r:Route} {a:Attrs} (h:sayO s pe pol r=some a):checkU ⟨[],[r.pfx],a⟩=0:=by
 have e:sayO s pe pol r=(sayK s pe pol r 6).bind fun a=>if checkU ⟨[],[r.pfx],a⟩=0 then some a else none:=rfl
 rw[e]at h
 cases hk:sayK s pe pol r 6 with
 | none=>rw[hk]at h;cases h
 | some b=>
  rw[hk]at h
  simp only[Option.bind_some]at h
  split at h
  ·cases h;assumption
  ·cases h
theorem nowL_right {s:SelfL} {pe:Peer} {pol:Policy} {l:List Route}:∀e∈nowL s pe pol l,checkU ⟨[],[e.1],e.2⟩=0:=by
 intro e he
 obtain⟨r,_,hr⟩:=List.mem_filterMap.1 he
 obtain⟨a,ha,rfl⟩:=Option.map_eq_some_iff.1 hr
 exact sayO_right ha
theorem nowL_keys {s:SelfL} {pe:Peer} {pol:Policy}:∀{l:List Route} {p:Prefix},p∈keysE (nowL s pe pol l)→p∈pfxs l:=by
 intro l p hp
 obtain⟨e,he,rfl⟩:=List.mem_map.1 hp
 obtain⟨r,h1,hr⟩:=List.mem_filterMap.1 he
 obtain⟨a,ha,rfl⟩:=Option.map_eq_some_iff.1 hr
 exact List.mem_map.2 ⟨r,h1,rfl⟩
theorem nowL_nod {s:SelfL} {pe:Peer} {pol:Policy}:∀{l:List Route},(pfxs l).Nodup→NodE (nowL s pe pol l)
 | [],_=>by simp[NodE,keysE,nowL]
 | r :: l,h=>by
  simp only[pfxs,List.map_cons,List.nodup_cons]at h
  have ih:=nowL_nod (s:=s) (pe:=pe) (pol:=pol) (l:=l) h.2
  unfold nowL at ih ⊢
  rw[List.filterMap_cons]
  cases ho:sayO s pe pol r with
  | none=>exact ih
  | some a=>
   simp only[Option.map_some,NodE,keysE,List.map_cons,List.nodup_cons]
   exact⟨fun hm=>h.1 (nowL_keys (l:=l) hm),ih⟩
theorem nowL_succ {s:SelfL} {pe:Peer} {pol:Policy} {l:List Route} {i:Nat} (h:i < l.length):nowL s pe pol (l.take (i + 1))=nowL s pe pol (l.take i)++ (match sayO s pe pol l[i]with|some a=>[(l[i].pfx,a)]|none=>[]):=by
 unfold nowL
 rw[List.take_succ_eq_append_getElem h,List.filterMap_append]
 congr 1
 cases ho:sayO s pe pol l[i]<;>simp[ho]
theorem nowL_len {s:SelfL} {pe:Peer} {pol:Policy} {l:List Route}:(nowL s pe pol l).length≤l.length:=List.length_filterMap_le _ _
theorem okT_out {l:List Route} (h:okT l=true):(∀r∈l,rightR r=true)∧(pfxs l).Nodup:=by
 simpa[okT]using h
theorem okT_bad {l:List Route} (h:okT l=false):∃(i:Nat) (hi:i < l.length),(∀r∈l.take i,rightR r=true)∧(pfxs (l.take i)).Nodup∧(rightR l[i]=false∨l[i].pfx∈pfxs (l.take i)):=by
 have key:∀n,n≤l.length→okT (l.take n)=false→∃(i:Nat) (hi:i < l.length),(∀r∈l.take i,rightR r=true)∧(pfxs (l.take i)).Nodup∧(rightR l[i]=false∨l[i].pfx∈pfxs (l.take i)):=by
  intro n
  induction n with
  | zero=>intro _ h;simp[okT,pfxs]at h
  | succ n ih=>
   intro hn h
   cases hk:okT (l.take n)with
   | false=>exact ih (by omega) hk
   | true=>
    obtain⟨h1,h2⟩:=okT_out hk
    refine⟨n,hn,h1,h2,?_⟩
    cases hr:rightR l[n]with
    | false=>exact .inl rfl
    | true=>
     right
     refine Classical.byContradiction fun hnm=>?_
     have:okT (l.take (n + 1))=true:=by
      rw[List.take_succ_eq_append_getElem hn]
      simp only[okT,Bool.and_eq_true,List.all_eq_true,decide_eq_true_eq]
      refine⟨fun r hm=>?_,?_⟩
      ·rcases List.mem_append.1 hm with hm|hm
       ·exact h1 r hm
       ·simp at hm;subst hm;exact hr
      ·simp only[pfxs,List.map_append,List.map_cons,List.map_nil]
       rw[List.nodup_append]
       refine⟨h2,by simp,?_⟩
       intro x hx y hy e
       simp at hy
       subst hy;subst e
       exact hnm hx
     rw[this]at h;cases h
 exact key l.length (Nat.le_refl _) (by rw[List.take_length];exact h)
section
open Go.Proofs.Tryz (prog)
attribute [local irreducible] CallV RoundV aggK
theorem sortedO_ok (m:List (Prefix × Attrs)) (hb:m.length≤1000):PCon prog 50 [.imap false (esA m)] (encPs true (sortPs (keysE m))):=by
 refine callV_of (fn:=Go.Proofs.Tryz.f50) (body:=_) tab_ok mixed rfl rfl (by decide) (by simp[Go.Proofs.Tryz.f50]) ?_
 conv=>whnf
 refine callV_of (fn:=Go.Proofs.Tryz.f96) (body:=_) tab_ok mixed rfl rfl (by decide) (by simp[Go.Proofs.Tryz.f96]) ?_
 conv=>whnf
 refine⟨_,_,_,Ends.here,?_⟩
 conv=>whnf
 refine callV_of (fn:=Go.Proofs.Tryz.f95) (body:=_) tab_ok mixed rfl rfl (by decide) (by simp[Go.Proofs.Tryz.f95]) ?_
 conv=>whnf
 refine callV_of (fn:=Go.Proofs.Tryz.f142) (body:=_) tab_ok mixed rfl rfl (by decide) (by simp[Go.Proofs.Tryz.f142]) ?_
 conv=>whnf
 refine callV_of (fn:=Go.Proofs.Tryz.f172) (body:=_) tab_ok mixed rfl rfl (by decide) (by simp[Go.Proofs.Tryz.f172]) ?_
 conv=>whnf
 refine callV_loop [(2,.ptr 1 0)] ⟨rfl,trivial⟩ fun asg' body' hasg hbody=>?_
 refine callV_of (fn:=Go.Proofs.Tryz.f144) (body:=_) tab_ok mixed rfl rfl (by decide) (by simp[Go.Proofs.Tryz.f144]) ?_
 conv=>whnf
 refine vcg_loop tab_ok mixed (fun p:{p:List Prefix × List (Prefix × Attrs) // (p.1 ++ keysE p.2).Perm (keysE m)}=>⟨[(0,.yld 2),(5,.ptr 3 0)],[(2,some (.loop 13 [(2,.ptr 1 0)] [7] asg' body' .ready none)),(1,some (.var true 84 [.osl 4 2 0 p.1.1.length])),(3,some (.iter none (esA p.1.2))),(4,some (.arr true false 31 2 (rowsP p.1.1)))],5⟩) (fun p=>p.1.2.length) ⟨([],m),by simp⟩ ?_ (fun p=>?_)
 ·refine Wk.of id [] ⟨.yld rfl (by omega),.ptr rfl (by omega),trivial⟩ (LeH.of ⟨⟨by omega,.inl ⟨by simp,_,rfl,rfl,rfl,rfl,rfl,rfl,rfl,.ptr rfl (by omega),trivial⟩⟩,⟨by omega,.inl ⟨by simp,_,rfl,id,rfl,.osl0,trivial⟩⟩,⟨by omega,.inl ⟨by simp,_,rfl,LeB.iter rfl (esA_free _)⟩⟩,⟨by omega,.inr ⟨by simp,_,_,_,_,rfl⟩⟩,trivial⟩ (fun _ _ _ _ h=>h) (fun _ _=>rfl) (by omega) (by simp))
 obtain⟨⟨xs,rest⟩,hp⟩:=p
 conv=>whnf
 refine⟨fun h0=>?_,fun k kv hk=>?_⟩
 ·have h0:rest=[]:=by simpa[esA]using h0
  subst h0
  rw[show keysE ([]:List (Prefix × Attrs))=[]from rfl,List.append_nil]at hp
  conv=>whnf
  refine⟨_,_,_,Ends.here,?_⟩
  conv=>whnf
  refine⟨_,_,_,Ends.here,?_⟩
  conv=>whnf
  refine⟨_,_,_,Ends.here,?_⟩
  conv=>whnf
  have hxl:xs.length≤1000:=by
   have h1:xs.length=(keysE m).length:=hp.length_eq
   have h2:(keysE m).length=m.length:=by simp[keysE]
   omega
  refine callV_frame (nx:=5) (n0:=1) (renOf [(0,4)]) (sortF_ok true false xs (by omega)) (by repeat' (first|exact True.intro|exact .osl_of rfl (by omega) rfl|exact .free (.fn (by simp) (by simp))|exact LeB.arrE rfl (rowsP_free _) id id|exact .A|exact LeL.fr rfl|refine⟨?_,?_⟩)) (LeH.of (by repeat' (first|exact LHa|exact .osl_of rfl (by omega) rfl|exact .free (.fn (by simp) (by simp))|exact LeB.arrE rfl (rowsP_free _) id id|exact .A|exact LeL.fr rfl|exact LHb|refine Or.inl ⟨by simp,_,rfl,?_⟩|exact Or.inr ⟨by simp,_,_,_,_,rfl⟩|refine⟨rfl,rfl,rfl,rfl,rfl,rfl,?_⟩|refine⟨?_,?_⟩)) (show ∀b∈([0]:List Nat),∀b'∈([0]:List Nat),(renOf [(0,4)]) b=(renOf [(0,4)]) b'→b=b' by decide) (fun _ h=>by omega) (by omega) (by simp)) (fun b hb=>by match b,hb with|0,_=>exact ne_none_of rfl) (by decide) ?_
  rintro v h' nx' ⟨rfl,rfl,rfl⟩ _
  refine⟨.tup [],[(4,some (.arr true false 31 2 (rowsP (sortPs xs))))],.free (.tup (by simp)),(by repeat' (first|exact True.intro|exact Or.inr ⟨by decide,rfl⟩|exact Or.inl ⟨0,rfl,by omega,_,rfl,RenB.arr (rowsP_free _)⟩|refine⟨?_,?_⟩)),?_⟩
  conv=>whnf
  refine⟨_,_,_,Ends.here,?_⟩
  conv=>whnf
  have hs:sortPs xs=sortPs (keysE m):=sortPs_perm (by simpa using hp)
  exact Ends.pure [4] (LeV.freeze_of (by simp) rfl (by simp[sortPs_len]) (rowsP_free _) (by rw[hs];exact List.take_of_length_le (by simp[sortPs_len,← hs]))) (one_none rfl)
 ·obtain⟨p,hpk,rfl⟩:∃p,rest[k]? = some p∧kv=(encP p.1,encA false p.2):=by
   simp only[esA,List.getElem?_map,Option.map_eq_some_iff]at hk
   obtain⟨p,h1,h2⟩:=hk
   exact⟨p,h1,h2.symm⟩
  conv=>whnf
  subst hasg hbody
  refine roundV_of tab_ok mixed rfl (by simp) (show 2 < 6 by omega) ?_
  conv=>whnf
  have hlen:xs.length + 1≤1000:=by
   have h1:=hp.length_eq
   have h2:(keysE m).length=m.length:=by simp[keysE]
   have h3:k < rest.length:=(List.getElem?_eq_some_iff.1 hpk).1
   simp only[List.length_append,keysE,List.length_map]at h1 h2
   omega
  refine⟨rfl,by first|rfl|(simp;done),by first|rfl|(simp;done),⟨rfl,rfl,rfl,rfl,by decide⟩,by simp[rowsP],⟨by simp[tab,tabOf,nth];omega,by simp;omega⟩,?_⟩
  conv=>whnf
  refine⟨rfl,?_⟩
  conv=>whnf
  have hperm:((xs ++ [p.1])++ keysE (rest.eraseIdx k)).Perm (keysE m):=by
    have h1:(keysE rest)[k]? = some p.1:=by simp[keysE,hpk]
    have h2:keysE (rest.eraseIdx k)=(keysE rest).eraseIdx k:=keys_erase rest k
    rw[h2]
    exact(perm_step h1).trans hp
  refine⟨⟨(xs ++ [p.1],rest.eraseIdx k),hperm⟩,Wk.of (renOf [(4,8)]) [] ⟨.yld rfl (by omega),.ptr rfl (by omega),trivial⟩ (LeH.of ⟨⟨by omega,.inl ⟨by simp,_,rfl,rfl,rfl,rfl,rfl,rfl,rfl,.ptr rfl (by omega),trivial⟩⟩,⟨by omega,.inl ⟨by simp,_,rfl,id,rfl,.osl_of rfl (by omega) (by simp),trivial⟩⟩,⟨by omega,.inl ⟨by simp,_,rfl,LeB.iter (esA_erase rest k) (fun kv h=>esA_free _ kv (List.mem_of_mem_eraseIdx h))⟩⟩,⟨by omega,.inl ⟨by simp,_,rfl,LeB.arrE (by simp[rowsP];exact⟨List.take_of_length_le (by simp),rfl⟩) (fun x hx v hv=>by
   rcases List.mem_append.1 hx with h|h
   ·exact rowsP_free xs x (List.mem_of_mem_take h) v hv
   ·simp at h;subst h;simp at hv;rcases hv with rfl|rfl<;>exact .int) id id⟩⟩,trivial⟩ (show ∀b∈([2,1,3,4]:List Nat),∀b'∈([2,1,3,4]:List Nat),renOf [(4,8)] b=renOf [(4,8)] b'→b=b' by decide) (show ∀b,b < 3→renOf [(4,8)] b=b by decide) (by omega) (by simp)),?_⟩
  show(rest.eraseIdx k).length < rest.length
  have:=(List.getElem?_eq_some_iff.1 hpk).1
  rw[List.length_eraseIdx]
  split<;>omega
theorem clonePs_own (fr:Bool) (l:List Prefix) (hl:l.length≤1000):OCon prog 141 [encPs fr l] true false 31 2 l.length (rowsP l):=by
 rcases l with _|⟨x,l⟩
 ·refine callV_of (fn:=Go.Proofs.Tryz.f141) (body:=_) tab_ok mixed rfl rfl (by decide) (by simp[Go.Proofs.Tryz.f141]) ?_
  conv=>whnf
  refine⟨?_,?_⟩
  ·conv=>whnf
   exact Ends.ownNil
  ·conv=>whnf
   refine⟨⟨rfl,rfl,rfl,rfl,by decide⟩,by simp,⟨by simp[tab,tabOf,nth],by simp⟩,?_⟩
   conv=>whnf
   exact Ends.own rfl (by simp) rfl rfl
 ·refine callV_of (fn:=Go.Proofs.Tryz.f141) (body:=_) tab_ok mixed rfl rfl (by decide) (by simp[Go.Proofs.Tryz.f141]) ?_
  conv=>whnf
  refine⟨⟨rfl,rfl,rfl,rfl,by decide⟩,by simp,⟨by simp[tab,tabOf,nth]at *;omega,by simp at *;omega⟩,?_⟩
  conv=>whnf
  exact Ends.own rfl (rowsP_free (x :: l)) (by simp) rfl
theorem rowsP_ff (l:List Prefix):∀x∈rowsP l,∀v∈x,Free v∧Fresh v:=by
 intro x hx v hv
 obtain⟨p,_,rfl⟩:=List.mem_map.1 hx
 simp[cellsP]at hv
 rcases hv with rfl|rfl<;>exact⟨.int,.int⟩
section
variable {h : Heap} {nx nx' : Nat} {ρ : Nat → Nat} {Z : List Nat}
theorem LeR.app:∀{xs ys xs' ys':List (List V)},LeR h nx ρ nx' Z xs ys→LeR h nx ρ nx' Z xs' ys'→LeR h nx ρ nx' Z (xs ++ xs') (ys ++ ys')
 | [],[],_,_,_,h2=>h2
 | x :: xs,y :: ys,_,_,h1,h2=>⟨h1.1,LeR.app h1.2 h2⟩
 | [],_ :: _,_,_,h1,_=>h1.elim
 | _ :: _,[],_,_,h1,_=>h1.elim
theorem LeR.set:∀{xs ys:List (List V)} {x y:List V} {k:Nat},LeR h nx ρ nx' Z xs ys→LeL h nx ρ nx' Z x y→LeR h nx ρ nx' Z (xs.set k x) (ys.set k y)
 | [],[],_,_,_,_,_=>trivial
 | a :: xs,b :: ys,x,y,0,h1,h2=>⟨h2,h1.2⟩
 | a :: xs,b :: ys,x,y,k + 1,h1,h2=>⟨h1.1,LeR.set h1.2 h2⟩
 | [],_ :: _,_,_,_,h1,_=>h1.elim
 | _ :: _,[],_,_,_,h1,_=>h1.elim
end
theorem LeR.of_eq' {h:Heap} {nx nx':Nat} {ρ:Nat→Nat} {Z:List Nat} {xs ys zs:List (List V)} (hr:LeR h nx ρ nx' Z xs ys) (e:ys=zs):LeR h nx ρ nx' Z xs zs:=e▸hr
theorem snocP (l:List Prefix) (p:Prefix):List.take (l.length + (List.take 1 (List.drop 0 [[cW p.addr,cB p.len]])).length) (List.drop 0 (List.take l.length (rowsP l)++ List.take 1 (List.drop 0 [[cW p.addr,cB p.len]])))=rowsP (l ++ [p]):=by
 show List.take (l.length + 1) (List.take l.length (rowsP l)++ [cellsP p])=rowsP (l ++ [p])
 rw[List.take_of_length_le (Nat.le_of_eq (by simp):(rowsP l).length≤l.length),List.take_of_length_le (by simp)]
 simp[rowsP]
theorem idP (l:List Prefix):List.take l.length (List.drop 0 (rowsP l))=rowsP l:=by simp[rowsP,List.take_of_length_le]
abbrev rowsUt (l:List Upd):List (List V):=l.map (cellsU true)
theorem rowsUt_ff (l:List Upd):∀x∈rowsUt l,∀v∈x,Free v∧Fresh v:=by
 intro x hx v hv
 obtain⟨u,_,rfl⟩:=List.mem_map.1 hx
 refine⟨cellsU_free true u v hv,?_⟩
 rcases List.mem_cons.1 hv with rfl|hv
 ·exact .sl fun x hx v hv=>(rowsP_ff u.gone x hx v hv).2
 rcases List.mem_cons.1 hv with rfl|hv
 ·exact .sl fun x hx v hv=>(rowsP_ff u.new x hx v hv).2
 simp only[cellsA,List.mem_cons,List.not_mem_nil,or_false]at hv
 rcases hv with rfl|rfl|rfl|rfl|rfl|rfl|rfl|rfl<;>first|exact .int|exact .bool|exact encLegs_fresh _|exact encW_fresh _
theorem rowsUt_free (l:List Upd):∀x∈rowsUt l,∀v∈x,Free v:=fun x hx v hv=>(rowsUt_ff l x hx v hv).1
theorem idxUt {l:List Upd} {k:Nat} (h:k < l.length):(rowsUt l)[k]? = some (cellsU true l[k]):=by simp[h]
def noUp:Upd:=⟨[],[],noA⟩
def moreG (u:Upd) (p:Prefix):Upd:={ u with gone:=u.gone ++ [p] }
def moreN (u:Upd) (p:Prefix):Upd:={ u with new:=u.new ++ [p] }
def fitU (more:Upd→Prefix→Upd) (us:List Upd) (k:Nat) (p:Prefix):Bool:=decide (checkU (more (us.getD k noUp) p)=0)
def putU (more:Upd→Prefix→Upd) (us:List Upd) (k:Nat) (p:Prefix):List Upd:=if fitU more us k p then us.set k (more (us.getD k noUp) p)else us
abbrev arrU (us:List Upd):Option Blk:=some (.arr true false 86 10 (rowsUt us))
abbrev varP (p:Prefix):Option Blk:=some (.var true 31 (cellsP p))
def FitC (g:FuncId) (more:Upd→Prefix→Upd) (us:List Upd) (k:Nat) (p:Prefix):Prop:=
 CallV prog 92 [.eptr 0 10 k 0,.fn (.func g) [] [.ptr 1 0]] [(0,arrU us),(1,varP p)] 2 (fun v h nx=>v=.bool (fitU more us k p)∧h=[(0,arrU (putU more us k p)),(1,varP p)]∧nx=2)
theorem fitG_ok (us:List Upd) (k:Nat) (hk:k < us.length) (p:Prefix) (hg:us[k].gone.length≤900) (hn:us[k].new.length≤900) (ha:smallA us[k].attrs∧fewA us[k].attrs=true):FitC 91 moreG us k p:=by
 have hcg:=clonePs_own false us[k].gone (by omega)
 have hcn:=clonePs_own false us[k].new (by omega)
 have hcp:=copy_pure true us[k].attrs ha.1.1 ha.1.2.1 ha.1.2.2
 have hgd:us.getD k noUp=us[k]:=by simp[hk]
 have hck:=ucheck_ok false (moreG us[k] p) ⟨by simp[moreG];omega,by simp[moreG];omega,ha.2⟩
 unfold FitC
 refine callV_of (fn:=Go.Proofs.Tryz.f92) (body:=_) tab_ok mixed rfl rfl (by decide) (by simp[Go.Proofs.Tryz.f92]) ?_
 conv=>whnf
 refine⟨rfl,_,idxUt hk,?_⟩
 conv=>whnf
 refine⟨.osl 2 2 0 us[k].gone.length,[],.arr true false 31 2 (rowsP us[k].gone),fun h nx _=>newV_own [] hcg ⟨.fresh_off (.fr rfl),trivial⟩ (by intro v hv;simp at hv;subst hv;exact encPs_cold _) (by simp) (rowsP_ff _),by simp,?_⟩
 conv=>whnf
 refine⟨rfl,_,idxUt hk,?_⟩
 conv=>whnf
 refine⟨.osl 3 2 0 us[k].new.length,[],.arr true false 31 2 (rowsP us[k].new),fun h nx _=>newV_own [] hcn ⟨.fresh_off (.fr rfl),trivial⟩ (by intro v hv;simp at hv;subst hv;exact encPs_cold _) (by simp) (rowsP_ff _),by simp,?_⟩
 conv=>whnf
 refine⟨rfl,_,idxUt hk,?_⟩
 conv=>whnf
 refine⟨_,[],fun h nx _=>pureV_pure hcp ⟨.fr rfl,trivial⟩,by simp,?_⟩
 conv=>whnf
 refine⟨by kernel_rfl,?_⟩
 conv=>whnf
 refine callV_of (fn:=Go.Proofs.Tryz.f91) (body:=_) tab_ok mixed rfl rfl (by decide) (by simp[Go.Proofs.Tryz.f91]) ?_
 conv=>whnf
 refine⟨rfl,by simp,?_⟩
 conv=>whnf
 refine⟨⟨rfl,rfl,rfl,rfl,by decide⟩,by simp,⟨by simp[tab,tabOf,nth];omega,by simp;omega⟩,?_⟩
 conv=>whnf
 refine⟨by kernel_rfl,?_⟩
 conv=>whnf
 refine⟨_,_,_,Ends.here,?_⟩
 conv=>whnf
 refine callV_lend [6,3] hck ⟨.aggL ⟨.fresh_off (.freezeE (by simp) rfl (by simp) (snocP _ _) (rowsP_free _)),.fresh_off (.freezeE (by simp) rfl (by simp) (idP _) (rowsP_free _)),cellsA_off⟩,trivial⟩ (by intro v hv;simp at hv;subst hv;exact encU_cld _) (by intro z hz;simp only[List.mem_cons,List.not_mem_nil,or_false]at hz;rcases hz with rfl|rfl<;>exact ne_none_of rfl) .int ?_
 by_cases hc:checkU (moreG us[k] p)=0
 ·rw[show(moreG us[k] p)=_ from rfl]at hc
  have ef:fitU moreG us k p=true:=by simp only[fitU,hgd];exact decide_eq_true hc
  conv=>whnf
  rw[show(checkU (moreG us[k] p) != 0)=false by simp[hc]]
  conv=>whnf
  refine⟨rfl,_,idxUt hk,?_⟩
  conv=>whnf
  refine⟨.bool true,[(0,arrU (us.set k (moreG us[k] p))),(1,varP p)],2,(Ends.all id [6,3] (by repeat' (first|exact LHa|exact⟨id,id,rfl,rfl,LeR.out (LeR.of_eq' (LeR.set (LeR.free (rowsUt_free us)) (y:=cellsU true (moreG us[k] p)) ⟨LeV.freezeE (by simp) rfl (by simp) (snocP _ _) (rowsP_free _),LeV.freezeE (by simp) rfl (by simp) (idP _) (rowsP_free _),.fr rfl,.fr rfl,.fr rfl,.fr rfl,.fr rfl,.fr rfl,.fr rfl,.fr rfl,trivial⟩) (by simp))⟩|exact .A|exact LeL.fr rfl|exact LHb|refine Or.inl ⟨by simp,_,rfl,?_⟩|exact Or.inr ⟨by simp,_,_,_,_,rfl⟩|refine⟨rfl,rfl,rfl,rfl,rfl,rfl,?_⟩|refine⟨?_,?_⟩)) (fun _ _ _ _ h=>h) (fun _ _=>rfl) (by omega) (by intro z hz;simp only[List.mem_cons,List.not_mem_nil,or_false]at hz;rcases hz with rfl|rfl<;>exact ne_none_of rfl)),?_,?_,rfl⟩
  ·rw[ef]
  ·simp only[putU,ef,if_true,hgd]
 ·have ef:fitU moreG us k p=false:=by simp only[fitU,hgd];exact decide_eq_false hc
  conv=>whnf
  rw[show(checkU (moreG us[k] p) != 0)=true by simp[hc]]
  conv=>whnf
  refine⟨.bool false,[(0,arrU us),(1,varP p)],2,(Ends.all id [] (by repeat' (first|exact LHa|exact⟨id,id,rfl,rfl,LeR.out (LeR.free (rowsUt_free us))⟩|exact .A|exact LeL.fr rfl|exact LHb|refine Or.inl ⟨by simp,_,rfl,?_⟩|exact Or.inr ⟨by simp,_,_,_,_,rfl⟩|refine⟨rfl,rfl,rfl,rfl,rfl,rfl,?_⟩|refine⟨?_,?_⟩)) (fun _ _ _ _ h=>h) (fun _ _=>rfl) (by omega) (by simp)),?_,?_,rfl⟩
  ·rw[ef]
  ·simp only[putU,ef,Bool.false_eq_true,if_false]
theorem fitN_ok (us:List Upd) (k:Nat) (hk:k < us.length) (p:Prefix) (hg:us[k].gone.length≤900) (hn:us[k].new.length≤900) (ha:smallA us[k].attrs∧fewA us[k].attrs=true):FitC 93 moreN us k p:=by
 have hcg:=clonePs_own false us[k].gone (by omega)
 have hcn:=clonePs_own false us[k].new (by omega)
 have hcp:=copy_pure true us[k].attrs ha.1.1 ha.1.2.1 ha.1.2.2
 have hgd:us.getD k noUp=us[k]:=by simp[hk]
 have hck:=ucheck_ok false (moreN us[k] p) ⟨by simp[moreN];omega,by simp[moreN];omega,ha.2⟩
 unfold FitC
 refine callV_of (fn:=Go.Proofs.Tryz.f92) (body:=_) tab_ok mixed rfl rfl (by decide) (by simp[Go.Proofs.Tryz.f92]) ?_
 conv=>whnf
 refine⟨rfl,_,idxUt hk,?_⟩
 conv=>whnf
 refine⟨.osl 2 2 0 us[k].gone.length,[],.arr true false 31 2 (rowsP us[k].gone),fun h nx _=>newV_own [] hcg ⟨.fresh_off (.fr rfl),trivial⟩ (by intro v hv;simp at hv;subst hv;exact encPs_cold _) (by simp) (rowsP_ff _),by simp,?_⟩
 conv=>whnf
 refine⟨rfl,_,idxUt hk,?_⟩
 conv=>whnf
 refine⟨.osl 3 2 0 us[k].new.length,[],.arr true false 31 2 (rowsP us[k].new),fun h nx _=>newV_own [] hcn ⟨.fresh_off (.fr rfl),trivial⟩ (by intro v hv;simp at hv;subst hv;exact encPs_cold _) (by simp) (rowsP_ff _),by simp,?_⟩
 conv=>whnf
 refine⟨rfl,_,idxUt hk,?_⟩
 conv=>whnf
 refine⟨_,[],fun h nx _=>pureV_pure hcp ⟨.fr rfl,trivial⟩,by simp,?_⟩
 conv=>whnf
 refine⟨by kernel_rfl,?_⟩
 conv=>whnf
 refine callV_of (fn:=Go.Proofs.Tryz.f93) (body:=_) tab_ok mixed rfl rfl (by decide) (by simp[Go.Proofs.Tryz.f93]) ?_
 conv=>whnf
 refine⟨rfl,by simp,?_⟩
 conv=>whnf
 refine⟨⟨rfl,rfl,rfl,rfl,by decide⟩,by simp,⟨by simp[tab,tabOf,nth];omega,by simp;omega⟩,?_⟩
 conv=>whnf
 refine⟨by kernel_rfl,?_⟩
 conv=>whnf
 refine⟨_,_,_,Ends.here,?_⟩
 conv=>whnf
 refine callV_lend [6,2] hck ⟨.aggL ⟨.fresh_off (.freezeE (by simp) rfl (by simp) (idP _) (rowsP_free _)),.fresh_off (.freezeE (by simp) rfl (by simp) (snocP _ _) (rowsP_free _)),cellsA_off⟩,trivial⟩ (by intro v hv;simp at hv;subst hv;exact encU_cld _) (by intro z hz;simp only[List.mem_cons,List.not_mem_nil,or_false]at hz;rcases hz with rfl|rfl<;>exact ne_none_of rfl) .int ?_
 by_cases hc:checkU (moreN us[k] p)=0
 ·rw[show(moreN us[k] p)=_ from rfl]at hc
  have ef:fitU moreN us k p=true:=by simp only[fitU,hgd];exact decide_eq_true hc
  conv=>whnf
  rw[show(checkU (moreN us[k] p) != 0)=false by simp[hc]]
  conv=>whnf
  refine⟨rfl,_,idxUt hk,?_⟩
  conv=>whnf
  refine⟨.bool true,[(0,arrU (us.set k (moreN us[k] p))),(1,varP p)],2,(Ends.all id [6,2] (by repeat' (first|exact LHa|exact⟨id,id,rfl,rfl,LeR.out (LeR.of_eq' (LeR.set (LeR.free (rowsUt_free us)) (y:=cellsU true (moreN us[k] p)) ⟨LeV.freezeE (by simp) rfl (by simp) (idP _) (rowsP_free _),LeV.freezeE (by simp) rfl (by simp) (snocP _ _) (rowsP_free _),.fr rfl,.fr rfl,.fr rfl,.fr rfl,.fr rfl,.fr rfl,.fr rfl,.fr rfl,trivial⟩) (by simp))⟩|exact .A|exact LeL.fr rfl|exact LHb|refine Or.inl ⟨by simp,_,rfl,?_⟩|exact Or.inr ⟨by simp,_,_,_,_,rfl⟩|refine⟨rfl,rfl,rfl,rfl,rfl,rfl,?_⟩|refine⟨?_,?_⟩)) (fun _ _ _ _ h=>h) (fun _ _=>rfl) (by omega) (by intro z hz;simp only[List.mem_cons,List.not_mem_nil,or_false]at hz;rcases hz with rfl|rfl<;>exact ne_none_of rfl)),?_,?_,rfl⟩
  ·rw[ef]
  ·simp only[putU,ef,if_true,hgd]
 ·have ef:fitU moreN us k p=false:=by simp only[fitU,hgd];exact decide_eq_false hc
  conv=>whnf
  rw[show(checkU (moreN us[k] p) != 0)=true by simp[hc]]
  conv=>whnf
  refine⟨.bool false,[(0,arrU us),(1,varP p)],2,(Ends.all id [] (by repeat' (first|exact LHa|exact⟨id,id,rfl,rfl,LeR.out (LeR.free (rowsUt_free us))⟩|exact .A|exact LeL.fr rfl|exact LHb|refine Or.inl ⟨by simp,_,rfl,?_⟩|exact Or.inr ⟨by simp,_,_,_,_,rfl⟩|refine⟨rfl,rfl,rfl,rfl,rfl,rfl,?_⟩|refine⟨?_,?_⟩)) (fun _ _ _ _ h=>h) (fun _ _=>rfl) (by omega) (by simp)),?_,?_,rfl⟩
  ·rw[ef]
  ·simp only[putU,ef,Bool.false_eq_true,if_false]
end
section
open Go.Proofs.Tryz (prog)
def goKs (K:List Prefix) (n:List (Prefix × Attrs)):List Prefix:=K.filter fun p=>!decide (p∈keysE n)
theorem goKs_succ {K:List Prefix} {n:List (Prefix × Attrs)} {i:Nat} (h:i < K.length):goKs (K.take (i + 1)) n=if K[i]∈keysE n then goKs (K.take i) n else goKs (K.take i) n ++ [K[i]]:=by
 unfold goKs
 rw[List.take_succ_eq_append_getElem h,List.filter_append]
 by_cases hm:K[i]∈keysE n<;>simp[hm]
theorem goU_snoc (l:List Prefix) (p:Prefix):goU (l ++ [p])=goS (goU l) p:=by
 unfold goU
 rw[List.foldl_append]
 rfl
theorem gone_getD (out:List (List Prefix)) (k:Nat):(goneU out).getD k noUp=⟨out.getD k [],[],noA⟩:=by
 simp only[goneU,List.getD_eq_getElem?_getD,List.getElem?_map]
 cases out[k]?<;>rfl
theorem fitG_eq (out:List (List Prefix)) (k:Nat) (p:Prefix):fitU moreG (goneU out) k p=decide (checkU ⟨out.getD k []++ [p],[],noA⟩=0):=by
 unfold fitU
 rw[gone_getD]
 rfl
theorem goS_put {out:List (List Prefix)} {p:Prefix} (h:0 < out.length) (hf:fitU moreG (goneU out) (out.length - 1) p=true):putU moreG (goneU out) (out.length - 1) p=goneU (goS out p):=by
 have hf':=hf
 rw[fitG_eq,decide_eq_true_eq]at hf
 rw[putU,if_pos hf',gone_getD,goS,if_pos ⟨h,hf⟩]
 simp[goneU,moreG,List.map_set]
theorem goS_new {out:List (List Prefix)} {p:Prefix} (hf:0 < out.length→fitU moreG (goneU out) (out.length - 1) p=false):goS out p=out ++ [[p]]:=by
 rw[goS,if_neg]
 rintro ⟨h1,h2⟩
 have:=hf h1
 rw[fitG_eq,decide_eq_false_iff_not]at this
 exact this h2
theorem gone_len (out:List (List Prefix)):(goneU out).length=out.length:=by simp[goneU]
theorem noA_few:smallA noA∧fewA noA=true:=⟨noA_small,by decide⟩
attribute [local irreducible] CallV RoundV aggK
instance {l:List Upd}:FreeRI (l.map (cellsU true)):=⟨⟨rowsUt_free l⟩⟩
theorem goes_ok (m n:List (Prefix × Attrs)) (hm:m.length≤1000) (hn:n.length≤1000) :
  OCon prog 46 [.imap false (esA m),.imap false (esA n)] true false 86 10 (goneU (goU (goKs (sortPs (keysE m)) n))).length (rowsUt (goneU (goU (goKs (sortPs (keysE m)) n)))):=by
 have hso:=sortedO_ok m hm
 have hKl:(sortPs (keysE m)).length≤1000:=by rw[sortPs_len,keysE_len];exact hm
 generalize sortPs (keysE m)=K at hso hKl ⊢
 refine callV_of (fn:=Go.Proofs.Tryz.f46) (body:=_) tab_ok mixed rfl rfl (by decide) (by simp[Go.Proofs.Tryz.f46]) ?_
 conv=>whnf
 refine callV_pure hso ⟨.fr rfl,trivial⟩ ?_
 conv=>whnf
 intro hgl
 have hgl:K.length≤maxLen:=by simpa[gd]using hgl
 conv=>whnf
 refine vcg_loop tab_ok mixed (fun i:{i:Nat // i≤K.length}=>⟨[(0,.imap false (esA m)),(1,.imap false (esA n)),(4,.osl 0 10 0 (goneU (goU (goKs (K.take i.1) n))).length),(11,encPs true K),(12,cI K.length),(13,cI i.1)],[(0,arrU (goneU (goU (goKs (K.take i.1) n))))],1⟩) (fun i=>K.length - i.1) ⟨0,by omega⟩ (Wk.i (by repeat' (first|exact LHa|exact .int_of (by simp)|exact .A|exact LeL.fr rfl|exact LHb|refine Or.inl ⟨by simp,_,rfl,?_⟩|exact Or.inr ⟨by simp,_,_,_,_,rfl⟩|refine⟨rfl,rfl,rfl,rfl,rfl,rfl,?_⟩|refine⟨?_,?_⟩)) (by omega)) (fun i=>?_)
 obtain⟨i,hi⟩:=i
 conv=>whnf
 split
 ·rename_i hc
  have hc:i < K.length:=by simpa using hc
  have hI:=goU_I (goKs (K.take i) n)
  have hL:(goKs (K.take i) n).length≤1000:=Nat.le_trans (List.length_filter_le _ _) (by rw[List.length_take];omega)
  have hI:GoI 1000 (goU (goKs (K.take i) n)):=hI.more hL
  have hs:=goKs_succ (n:=n) hc
  conv=>whnf
  refine ixK (idxP hc) ?_
  conv=>whnf
  cases hg:getE n K[i]with
  | some a=>
   rw[if_pos (getE_key hg)]at hs
   refine⟨esA_keys _,keyP _,some (encA false a),look_some hg,?_⟩
   conv=>whnf
   exact⟨⟨i + 1,by omega⟩,(Wk.i (by repeat' (first|exact LHa|exact .int_of (wrap64_succ hc hgl)|exact .osl_of rfl (by omega) (by simp only[hs])|exact LeB.fr (by simp only[hs]) id id|exact .A|exact LeL.fr rfl|exact LHb|refine Or.inl ⟨by simp,_,rfl,?_⟩|exact Or.inr ⟨by simp,_,_,_,_,rfl⟩|refine⟨rfl,rfl,rfl,rfl,rfl,rfl,?_⟩|refine⟨?_,?_⟩)) (by omega)),by simp only;omega⟩
  | none=>
   rw[if_neg (getE_none.1 hg)]at hs
   have hs2:goU (goKs (K.take (i + 1)) n)=goS (goU (goKs (K.take i) n)) K[i]:=by rw[hs,goU_snoc]
   generalize goU (goKs (K.take i) n)=out at *
   refine⟨esA_keys _,keyP _,none,look_none hg,?_⟩
   conv=>whnf
   intro hgo
   conv=>whnf
   split
   ·rename_i hz
    have hz:0 < out.length:=by simpa[gone_len]using hz
    conv=>whnf
    intro hgo2
    have hw:IntKind.i64.wrap (((goneU out).length:Int) - 1)=((out.length - 1:Nat):Int):=by rw[gone_len,wrap64 (by omega) (by have:=hI.len;omega)];omega
    conv=>whnf
    rw[hw]
    refine⟨rfl,⟨by omega,by rw[gone_len];omega⟩,?_⟩
    conv=>whnf
    rw[show 0 + ((out.length - 1:Nat):Int).toNat=out.length - 1 by simp]
    have hf:=fitG_ok (goneU out) (out.length - 1) (by rw[gone_len];omega) K[i] (by simp only[goneU,List.getElem_map];have:=hI.few _ (List.getElem_mem (by omega:out.length - 1 < out.length));omega) (by simp[goneU]) (by simp only[goneU,List.getElem_map];exact noA_few)
    unfold FitC at hf
    refine callV_frame (nx:=3) (n0:=2) (renOf [(0,0),(1,1)]) (hf) (by repeat' (first|exact True.intro|exact .eptr rfl (by omega)|exact .fnL trivial ⟨.ptr rfl (by omega),trivial⟩|exact .A|exact LeL.fr rfl|refine⟨?_,?_⟩)) (LeH.of (by repeat' (first|exact LHa|exact .eptr rfl (by omega)|exact .fnL trivial ⟨.ptr rfl (by omega),trivial⟩|exact .A|exact LeL.fr rfl|exact LHb|refine Or.inl ⟨by simp,_,rfl,?_⟩|exact Or.inr ⟨by simp,_,_,_,_,rfl⟩|refine⟨rfl,rfl,rfl,rfl,rfl,rfl,?_⟩|refine⟨?_,?_⟩)) (show ∀b∈([0,1]:List Nat),∀b'∈([0,1]:List Nat),(renOf [(0,0),(1,1)]) b=(renOf [(0,0),(1,1)]) b'→b=b' by decide) (fun _ h=>by omega) (by omega) (by simp)) (fun b hb=>by match b,hb with|0,_=>exact ne_none_of rfl|1,_=>exact ne_none_of rfl) (by decide) ?_
    rintro v h' nx' ⟨rfl,rfl,rfl⟩ _
    refine⟨.bool (fitU moreG (goneU out) (out.length - 1) K[i]),[(0,arrU (putU moreG (goneU out) (out.length - 1) K[i])),(1,varP K[i])],.free .bool,(by repeat' (first|exact True.intro|exact Or.inr ⟨by decide,rfl⟩|exact Or.inl ⟨0,rfl,by omega,_,rfl,.arr (rowsUt_free _)⟩|exact Or.inl ⟨1,rfl,by omega,_,rfl,.var (cellsP_free _)⟩|refine⟨?_,?_⟩)),?_⟩
    cases hfb:fitU moreG (goneU out) (out.length - 1) K[i]with
    | true=>
     have hgl1:(goS out K[i]).length=out.length:=by
      rw[fitG_eq,decide_eq_true_eq]at hfb
      rw[goS,if_pos ⟨hz,hfb⟩]
      simp
     rw[goS_put hz hfb]
     conv=>whnf
     exact⟨⟨i + 1,by omega⟩,(Wk.i (by repeat' (first|exact LHa|exact .int_of (wrap64_succ hc hgl)|exact .osl_of rfl (by omega) (by simp only[hs2,gone_len,hgl1])|exact LeB.fr (by simp only[hs2]) id id|exact .A|exact LeL.fr rfl|exact LHb|refine Or.inl ⟨by simp,_,rfl,?_⟩|exact Or.inr ⟨by simp,_,_,_,_,rfl⟩|refine⟨rfl,rfl,rfl,rfl,rfl,rfl,?_⟩|refine⟨?_,?_⟩)) (by omega)),by simp only;omega⟩
    | false=>
     have hn1:goS out K[i]=out ++ [[K[i]]]:=goS_new fun _=>hfb
     rw[show putU moreG (goneU out) (out.length - 1) K[i]=goneU out by rw[putU,hfb];rfl]
     conv=>whnf
     refine⟨rfl,by simp,?_⟩
     conv=>whnf
     refine⟨⟨rfl,rfl,rfl,rfl,by decide⟩,by simp,⟨by simp[tab,tabOf,nth,gone_len];have:=hI.len;omega,by simp[gone_len];have:=hI.len;omega⟩,?_⟩
     conv=>whnf
     exact⟨⟨i + 1,by omega⟩,(Wk.all (renOf [(0,5)]) [3] (by repeat' (first|exact LHa|exact .int_of (wrap64_succ hc hgl)|exact .osl_of rfl (by omega) (by simp only[hs2,hn1];simp[goneU])|exact Or.inl ⟨by decide,_,rfl,id,id,rfl,rfl,LeR.out (LeR.of_eq' (LeR.app (LeR.of_eq (List.take_of_length_le (by simp)) (.free (rowsUt_free (goneU out)))) (ys':=rowsUt [⟨[K[i]],[],noA⟩]) ⟨⟨.freezeE (by simp) rfl (by simp) rfl (rowsP_free _),.snil_sl,.fr rfl,.snil_sl,.fr rfl,.fr rfl,.fr rfl,.fr rfl,.fr rfl,.snil_sl,trivial⟩,trivial⟩) (by simp only[hs2,hn1];simp[goneU]))⟩|exact .A|exact LeL.fr rfl|exact LHb|refine Or.inl ⟨by simp,_,rfl,?_⟩|exact Or.inr ⟨by simp,_,_,_,_,rfl⟩|refine⟨rfl,rfl,rfl,rfl,rfl,rfl,?_⟩|refine⟨?_,?_⟩)) (show ∀b∈([0]:List Nat),∀b'∈([0]:List Nat),(renOf [(0,5)]) b=(renOf [(0,5)]) b'→b=b' by decide) (fun _ h=>by omega) (by omega) (by intro z hz;simp only[List.mem_cons,List.not_mem_nil,or_false]at hz;rcases hz with rfl<;>exact ne_none_of rfl)),by simp only;omega⟩
   ·rename_i hz
    have hz:out.length=0:=by simpa[gone_len]using hz
    have hn1:goS out K[i]=out ++ [[K[i]]]:=goS_new fun h=>by omega
    conv=>whnf
    refine⟨rfl,by simp,?_⟩
    conv=>whnf
    refine⟨⟨rfl,rfl,rfl,rfl,by decide⟩,by simp,⟨by simp[tab,tabOf,nth,gone_len];have:=hI.len;omega,by simp[gone_len];have:=hI.len;omega⟩,?_⟩
    conv=>whnf
    exact⟨⟨i + 1,by omega⟩,(Wk.all (renOf [(0,5)]) [3] (by repeat' (first|exact LHa|exact .int_of (wrap64_succ hc hgl)|exact .osl_of rfl (by omega) (by simp only[hs2,hn1];simp[goneU])|exact Or.inl ⟨by decide,_,rfl,id,id,rfl,rfl,LeR.out (LeR.of_eq' (LeR.app (LeR.of_eq (List.take_of_length_le (by simp)) (.free (rowsUt_free (goneU out)))) (ys':=rowsUt [⟨[K[i]],[],noA⟩]) ⟨⟨.freezeE (by simp) rfl (by simp) rfl (rowsP_free _),.snil_sl,.fr rfl,.snil_sl,.fr rfl,.fr rfl,.fr rfl,.fr rfl,.fr rfl,.snil_sl,trivial⟩,trivial⟩) (by simp only[hs2,hn1];simp[goneU]))⟩|exact .A|exact LeL.fr rfl|exact LHb|refine Or.inl ⟨by simp,_,rfl,?_⟩|exact Or.inr ⟨by simp,_,_,_,_,rfl⟩|refine⟨rfl,rfl,rfl,rfl,rfl,rfl,?_⟩|refine⟨?_,?_⟩)) (show ∀b∈([0]:List Nat),∀b'∈([0]:List Nat),(renOf [(0,5)]) b=(renOf [(0,5)]) b'→b=b' by decide) (fun _ h=>by omega) (by omega) (by intro z hz;simp only[List.mem_cons,List.not_mem_nil,or_false]at hz;rcases hz with rfl<;>exact ne_none_of rfl)),by simp only;omega⟩
 rename_i hc
 have hc:i=K.length:=by simp at hc;omega
 subst hc
 conv=>whnf
 rw[List.take_length]
 exact Ends.own rfl (rowsUt_free _) rfl rfl
end
section
open Go.Proofs.Tryz (prog)
def comOne (m n:List (Prefix × Attrs)) (p:Prefix):Option (Prefix × Attrs):=(getE n p).bind fun a=>if getE m p=some a then none else some (p,a)
def comKs (K:List Prefix) (m n:List (Prefix × Attrs)):List (Prefix × Attrs):=K.filterMap (comOne m n)
theorem comKs_succ {K:List Prefix} {m n:List (Prefix × Attrs)} {i:Nat} (h:i < K.length):comKs (K.take (i + 1)) m n=comKs (K.take i) m n ++ (comOne m n K[i]).toList:=by
 unfold comKs
 rw[List.take_succ_eq_append_getElem h,List.filterMap_append]
 cases ho:comOne m n K[i]<;>simp[ho]
theorem comU_snoc (l:List (Prefix × Attrs)) (e:Prefix × Attrs):comU (l ++ [e])=comS (comU l) e:=by
 unfold comU
 rw[List.foldl_append]
 rfl
theorem new_getD (out:List (List Prefix × Attrs)) (k:Nat):(newU out).getD k noUp=⟨[],(out.getD k noX).1,(out.getD k noX).2⟩:=by
 simp only[newU,List.getD_eq_getElem?_getD,List.getElem?_map]
 cases out[k]?<;>rfl
theorem new_len (out:List (List Prefix × Attrs)):(newU out).length=out.length:=by simp[newU]
theorem new_at (out:List (List Prefix × Attrs)) (k:Nat) (h:k < (newU out).length):(newU out)[k]=⟨[],(out[k]'(by rw[new_len]at h;exact h)).1,(out[k]'(by rw[new_len]at h;exact h)).2⟩:=by simp[newU]
theorem fitN_eq {out:List (List Prefix × Attrs)} {k:Nat} (h:k < out.length) (p:Prefix):fitU moreN (newU out) k p=decide (checkU ⟨[],out[k].1 ++ [p],out[k].2⟩=0):=by
 unfold fitU
 rw[new_getD,show out.getD k noX=out[k]by simp[h]]
 rfl
def NoF (out:List (List Prefix × Attrs)) (e:Prefix × Attrs) (k:Nat):Prop:=∀(j:Nat) (h:j < out.length),j < k→comF e.1 e.2 out[j]=false
theorem comS_hit {out:List (List Prefix × Attrs)} {e:Prefix × Attrs} {k:Nat} (h:k < out.length) (hn:NoF out e k) (hs:out[k].2=e.2) (hf:fitU moreN (newU out) k e.1=true) :
  putU moreN (newU out) k e.1=newU (comS out e)∧(comS out e).length=out.length:=by
 have hf':=hf
 rw[fitN_eq h,decide_eq_true_eq,hs]at hf
 have hi:out.findIdx (comF e.1 e.2)=k:=by
  rw[List.findIdx_eq h]
  exact⟨by simp[comF,hs,hf],fun j hj=>hn j (by omega) hj⟩
 rw[putU,if_pos hf',new_getD,comS,hi,if_pos h]
 refine⟨?_,by simp⟩
 simp only[newU,moreN,List.map_set]
 congr 2
 rw[show out.getD k noX=out[k]by simp[h],hs]
theorem comS_miss {out:List (List Prefix × Attrs)} {e:Prefix × Attrs} (hn:NoF out e out.length):comS out e=out ++ [([e.1],e.2)]:=by
 rw[comS,if_neg]
 intro h
 have h1:=List.findIdx_getElem (p:=comF e.1 e.2) (w:=h)
 rw[hn _ h h]at h1
 cases h1
theorem NoF.step {out:List (List Prefix × Attrs)} {e:Prefix × Attrs} {k:Nat} (hn:NoF out e k) (hk:k < out.length) (hc:comF e.1 e.2 out[k]=false):NoF out e (k + 1):=fun j hj hlt=>by
 rcases Nat.lt_or_ge j k with h|h
 ·exact hn j hj h
 ·obtain rfl:j=k:=by omega
  exact hc
attribute [local irreducible] CallV RoundV aggK
theorem comes_ok (m n:List (Prefix × Attrs)) (hm:m.length≤1000) (hn:n.length≤1000) (hr:∀e∈n,rightA e.2=true) :
  OCon prog 47 [.imap false (esA m),.imap false (esA n)] true false 86 10 (newU (comU (comKs (sortPs (keysE n)) m n))).length (rowsUt (newU (comU (comKs (sortPs (keysE n)) m n)))):=by
 have hso:=sortedO_ok n hn
 have hKl:(sortPs (keysE n)).length≤1000:=by rw[sortPs_len,keysE_len];exact hn
 have hKk:∀q∈sortPs (keysE n),q∈keysE n:=fun q=>mem_sortPs.1
 generalize sortPs (keysE n)=K at hso hKl hKk ⊢
 refine callV_of (fn:=Go.Proofs.Tryz.f47) (body:=_) tab_ok mixed rfl rfl (by decide) (by simp[Go.Proofs.Tryz.f47]) ?_
 conv=>whnf
 refine callV_pure hso ⟨.fr rfl,trivial⟩ ?_
 conv=>whnf
 intro hgl
 have hgl:K.length≤maxLen:=by simpa[gd]using hgl
 conv=>whnf
 refine vcg_loop tab_ok mixed (fun i:{i:Nat // i≤K.length}=>⟨[(0,.imap false (esA m)),(1,.imap false (esA n)),(4,.osl 0 10 0 (newU (comU (comKs (K.take i.1) m n))).length),(13,encPs true K),(14,cI K.length),(15,cI i.1)],[(0,arrU (newU (comU (comKs (K.take i.1) m n))))],1⟩) (fun i=>K.length - i.1) ⟨0,by omega⟩ (Wk.i (by repeat' (first|exact LHa|exact .int_of (by simp)|exact .A|exact LeL.fr rfl|exact LHb|refine Or.inl ⟨by simp,_,rfl,?_⟩|exact Or.inr ⟨by simp,_,_,_,_,rfl⟩|refine⟨rfl,rfl,rfl,rfl,rfl,rfl,?_⟩|refine⟨?_,?_⟩)) (by omega)) (fun i=>?_)
 obtain⟨i,hi⟩:=i
 conv=>whnf
 split
 ·rename_i hc
  have hc:i < K.length:=by simpa using hc
  have hcr:∀e∈comKs (K.take i) m n,rightA e.2=true:=by
   intro e he
   obtain⟨q,_,hq⟩:=List.mem_filterMap.1 he
   simp only[comOne,Option.bind_eq_some_iff]at hq
   obtain⟨a,ha,hq⟩:=hq
   split at hq
   ·cases hq
   ·cases hq;exact hr _ (getE_mem ha)
  have hI:=comU_I hcr
  have hL:(comKs (K.take i) m n).length≤1000:=Nat.le_trans (List.length_filterMap_le _ _) (by rw[List.length_take];omega)
  have hI:ComI 1000 (comU (comKs (K.take i) m n)):=hI.more hL
  have hs:=comKs_succ (m:=m) (n:=n) hc
  have hcu:=comU_snoc (comKs (K.take i) m n)
  clear hcr hL
  generalize hout:comU (comKs (K.take i) m n)=out at *
  obtain⟨a,hga⟩:=key_getE (hKk _ (List.getElem_mem hc))
  have hra:rightA a=true:=hr _ (getE_mem hga)
  have hsa:=right_sf hra
  conv=>whnf
  refine ixK (idxP hc) ?_
  conv=>whnf
  refine⟨esA_keys _,keyP _,some (encA false a),look_some hga,?_⟩
  conv=>whnf
  cases hgw:getE m K[i]with
  | some b=>
   have sab:=same_ok false false b a
   refine⟨esA_keys _,keyP _,some (encA false b),look_some hgw,?_⟩
   conv=>whnf
   refine callV_pure sab ⟨.fr rfl,.fr rfl,trivial⟩ ?_
   cases hsab:sameA b a with
   | true=>
    have hba:b=a:=by simpa[sameA]using hsab
    have hs2:comU (comKs (K.take (i + 1)) m n)=out:=by
     rw[hs,comOne,hga,Option.bind_some,if_pos (by rw[hgw,hba]),Option.toList_none,List.append_nil];exact hout
    conv=>whnf
    exact⟨⟨i + 1,by omega⟩,(Wk.i (by repeat' (first|exact LHa|exact .int_of (wrap64_succ hc hgl)|exact .osl_of rfl (by omega) (by simp only[hs2])|exact LeB.fr (by simp only[hs2]) id id|exact .A|exact LeL.fr rfl|exact LHb|refine Or.inl ⟨by simp,_,rfl,?_⟩|exact Or.inr ⟨by simp,_,_,_,_,rfl⟩|refine⟨rfl,rfl,rfl,rfl,rfl,rfl,?_⟩|refine⟨?_,?_⟩)) (by omega)),by simp only;omega⟩
   | false=>
   have hba:b ≠ a:=by simpa[sameA]using hsab
   have hs2:comU (comKs (K.take (i + 1)) m n)=comS out (K[i],a):=by
    rw[hs,comOne,hga,Option.bind_some,if_neg (by rw[hgw];simpa using hba),Option.toList_some,hcu]
   conv=>whnf
   intro hgo
   conv=>whnf
   refine vcg_loop tab_ok mixed (fun k:{k:Nat // k≤out.length∧NoF out (K[i],a) k}=>⟨[(0,.imap false (esA m)),(1,.imap false (esA n)),(4,.osl 0 10 0 (newU out).length),(6,.ptr 1 0),(7,.ptr 2 0),(10,.fn (.func 93) [] [.ptr 1 0]),(13,encPs true K),(14,cI K.length),(15,cI i),(36,cI (newU out).length),(37,cI k.1)],[(0,arrU (newU out)),(1,varP K[i]),(2,some (.var true 35 (cellsA false a)))],3⟩) (fun k=>out.length - k.1) ⟨0,by omega,fun j _ h=>by omega⟩ (Wk.i (by repeat' (first|exact LHa|exact .int_of rfl|exact .fnL trivial ⟨.ptr rfl (by omega),trivial⟩|exact .A|exact LeL.fr rfl|exact LHb|refine Or.inl ⟨by simp,_,rfl,?_⟩|exact Or.inr ⟨by simp,_,_,_,_,rfl⟩|refine⟨rfl,rfl,rfl,rfl,rfl,rfl,?_⟩|refine⟨?_,?_⟩)) (by omega)) (fun k=>?_)
   obtain⟨k,hk,hno⟩:=k
   conv=>whnf
   split
   ·rename_i hck
    have hck:k < out.length:=by simpa[new_len]using hck
    have hkn:k < (newU out).length:=by rw[new_len];exact hck
    have e1:(newU out)[k].attrs=out[k].2:=by rw[new_at]
    have e2:(newU out)[k].gone=[]:=by rw[new_at]
    have e3:(newU out)[k].new=out[k].1:=by rw[new_at]
    have hfr:=hI.few _ (List.getElem_mem hck)
    have hrr:=right_sf (hI.right _ (List.getElem_mem hck))
    have sak:=same_ok true false (newU out)[k].attrs a
    have hf:=fitN_ok (newU out) k hkn K[i] (by rw[e2];simp) (by rw[e3];omega) (by rw[e1];exact hrr)
    unfold FitC at hf
    conv=>whnf
    refine⟨rfl,⟨by simp only;omega,by simp only;omega⟩,?_⟩
    conv=>whnf
    rw[show 0 + ((k:Nat):Int).toNat=k by simp]
    refine⟨rfl,_,idxUt hkn,?_⟩
    conv=>whnf
    refine⟨_,[],fun h nx _=>pureV_pure sak ⟨.fr rfl,.fr rfl,trivial⟩,by simp,?_⟩
    cases hsm:sameA (newU out)[k].attrs a with
    | false=>
     have hcf:comF K[i] a out[k]=false:=by
      rw[e1]at hsm
      simp only[sameA,decide_eq_false_iff_not]at hsm
      simp[comF,hsm]
     conv=>whnf
     refine⟨by kernel_rfl,?_⟩
     conv=>whnf
     exact⟨⟨k + 1,by omega,hno.step hck hcf⟩,(Wk.i (by repeat' (first|exact LHa|exact .int_of (wrap64_succ hck (by have:=hI.len;simp only[maxLen];omega))|exact .fnL trivial ⟨.ptr rfl (by omega),trivial⟩|exact .A|exact LeL.fr rfl|exact LHb|refine Or.inl ⟨by simp,_,rfl,?_⟩|exact Or.inr ⟨by simp,_,_,_,_,rfl⟩|refine⟨rfl,rfl,rfl,rfl,rfl,rfl,?_⟩|refine⟨?_,?_⟩)) (by omega)),by simp only;omega⟩
    | true=>
     have hsm':out[k].2=a:=by
      rw[e1]at hsm
      simpa[sameA]using hsm
     conv=>whnf
     refine⟨rfl,⟨by simp only;omega,by simp only;omega⟩,?_⟩
     conv=>whnf
     refine⟨by kernel_rfl,?_⟩
     conv=>whnf
     rw[show 0 + ((k:Nat):Int).toNat=k by simp]
     refine callV_frame (nx:=3) (n0:=2) (renOf [(0,0),(1,1)]) (hf) (by repeat' (first|exact True.intro|exact .eptr rfl (by omega)|exact .fnL trivial ⟨.ptr rfl (by omega),trivial⟩|exact .A|exact LeL.fr rfl|refine⟨?_,?_⟩)) (LeH.of (by repeat' (first|exact LHa|exact .eptr rfl (by omega)|exact .fnL trivial ⟨.ptr rfl (by omega),trivial⟩|exact .A|exact LeL.fr rfl|exact LHb|refine Or.inl ⟨by simp,_,rfl,?_⟩|exact Or.inr ⟨by simp,_,_,_,_,rfl⟩|refine⟨rfl,rfl,rfl,rfl,rfl,rfl,?_⟩|refine⟨?_,?_⟩)) (show ∀b∈([0,1]:List Nat),∀b'∈([0,1]:List Nat),(renOf [(0,0),(1,1)]) b=(renOf [(0,0),(1,1)]) b'→b=b' by decide) (fun _ h=>by omega) (by omega) (by simp)) (fun b hb=>by match b,hb with|0,_=>exact ne_none_of rfl|1,_=>exact ne_none_of rfl) (by decide) ?_
     rintro v h' nx' ⟨rfl,rfl,rfl⟩ _
     refine⟨.bool (fitU moreN (newU out) k K[i]),[(0,arrU (putU moreN (newU out) k K[i])),(1,varP K[i]),(2,some (.var true 35 (cellsA false a)))],.free .bool,(by repeat' (first|exact True.intro|exact Or.inr ⟨by decide,rfl⟩|exact Or.inl ⟨0,rfl,by omega,_,rfl,.arr (rowsUt_free _)⟩|exact Or.inl ⟨1,rfl,by omega,_,rfl,.var (cellsP_free _)⟩|refine⟨?_,?_⟩)),?_⟩
     cases hfb:fitU moreN (newU out) k K[i]with
     | true=>
      obtain⟨hp1,hp2⟩:=comS_hit (e:=(K[i],a)) hck hno hsm' hfb
      rw[hp1]
      conv=>whnf
      exact⟨⟨i + 1,by omega⟩,(Wk.i (by repeat' (first|exact LHa|exact .int_of (wrap64_succ hc hgl)|exact .osl_of rfl (by omega) (by simp only[hs2,new_len,hp2])|exact LeB.fr (by simp only[hs2]) id id|exact .A|exact LeL.fr rfl|exact LHb|refine Or.inl ⟨by simp,_,rfl,?_⟩|exact Or.inr ⟨by simp,_,_,_,_,rfl⟩|refine⟨rfl,rfl,rfl,rfl,rfl,rfl,?_⟩|refine⟨?_,?_⟩)) (by omega)),by simp only;omega⟩
     | false=>
      have hcf:comF K[i] a out[k]=false:=by
       rw[fitN_eq hck,decide_eq_false_iff_not,hsm']at hfb
       simp[comF,hsm',hfb]
      rw[show putU moreN (newU out) k K[i]=newU out by rw[putU,hfb];rfl]
      conv=>whnf
      exact⟨⟨k + 1,by omega,hno.step hck hcf⟩,(Wk.i (by repeat' (first|exact LHa|exact .int_of (wrap64_succ hck (by have:=hI.len;simp only[maxLen];omega))|exact .fnL trivial ⟨.ptr rfl (by omega),trivial⟩|exact .A|exact LeL.fr rfl|exact LHb|refine Or.inl ⟨by simp,_,rfl,?_⟩|exact Or.inr ⟨by simp,_,_,_,_,rfl⟩|refine⟨rfl,rfl,rfl,rfl,rfl,rfl,?_⟩|refine⟨?_,?_⟩)) (by omega)),by simp only;omega⟩
   rename_i hck
   have hck:k=out.length:=by simp[new_len]at hck;omega
   subst hck
   have hn1:=comS_miss hno
   have hcp:=copy_pure false a hsa.1.1 hsa.1.2.1 hsa.1.2.2
   conv=>whnf
   refine⟨_,[],fun h nx _=>pureV_pure hcp ⟨.fr rfl,trivial⟩,by simp,?_⟩
   conv=>whnf
   refine⟨rfl,by simp,?_⟩
   conv=>whnf
   refine⟨⟨rfl,rfl,rfl,rfl,by decide⟩,by simp,⟨by simp[tab,tabOf,nth,new_len];have:=hI.len;omega,by simp[new_len];have:=hI.len;omega⟩,?_⟩
   conv=>whnf
   refine⟨by kernel_rfl,?_⟩
   conv=>whnf
   exact⟨⟨i + 1,by omega⟩,(Wk.all (renOf [(0,5)]) [3] (by repeat' (first|exact LHa|exact .int_of (wrap64_succ hc hgl)|exact .osl_of rfl (by omega) (by simp only[hs2,hn1];simp[newU])|exact Or.inl ⟨by decide,_,rfl,id,id,rfl,rfl,LeR.out (LeR.of_eq' (LeR.app (LeR.of_eq (List.take_of_length_le (by simp)) (.free (rowsUt_free (newU out)))) (ys':=rowsUt [⟨[],[K[i]],a⟩]) ⟨⟨.snil_sl,.freezeE (by simp) rfl (by simp) rfl (rowsP_free _),.fr rfl,.fr rfl,.fr rfl,.fr rfl,.fr rfl,.fr rfl,.fr rfl,.fr rfl,trivial⟩,trivial⟩) (by simp only[hs2,hn1];simp[newU]))⟩|exact .A|exact LeL.fr rfl|exact LHb|refine Or.inl ⟨by simp,_,rfl,?_⟩|exact Or.inr ⟨by simp,_,_,_,_,rfl⟩|refine⟨rfl,rfl,rfl,rfl,rfl,rfl,?_⟩|refine⟨?_,?_⟩)) (show ∀b∈([0]:List Nat),∀b'∈([0]:List Nat),(renOf [(0,5)]) b=(renOf [(0,5)]) b'→b=b' by decide) (fun _ h=>by omega) (by omega) (by intro z hz;simp only[List.mem_cons,List.not_mem_nil,or_false]at hz;rcases hz with rfl<;>exact ne_none_of rfl)),by simp only;omega⟩
  | none=>
   have hs2:comU (comKs (K.take (i + 1)) m n)=comS out (K[i],a):=by
    rw[hs,comOne,hga,Option.bind_some,if_neg (by rw[hgw];simp),Option.toList_some,hcu]
   refine⟨esA_keys _,keyP _,none,look_none hgw,?_⟩
   conv=>whnf
   intro hgo
   conv=>whnf
   refine vcg_loop tab_ok mixed (fun k:{k:Nat // k≤out.length∧NoF out (K[i],a) k}=>⟨[(0,.imap false (esA m)),(1,.imap false (esA n)),(4,.osl 0 10 0 (newU out).length),(6,.ptr 1 0),(7,.ptr 2 0),(10,.fn (.func 93) [] [.ptr 1 0]),(13,encPs true K),(14,cI K.length),(15,cI i),(36,cI (newU out).length),(37,cI k.1)],[(0,arrU (newU out)),(1,varP K[i]),(2,some (.var true 35 (cellsA false a)))],3⟩) (fun k=>out.length - k.1) ⟨0,by omega,fun j _ h=>by omega⟩ (Wk.i (by repeat' (first|exact LHa|exact .int_of rfl|exact .fnL trivial ⟨.ptr rfl (by omega),trivial⟩|exact .A|exact LeL.fr rfl|exact LHb|refine Or.inl ⟨by simp,_,rfl,?_⟩|exact Or.inr ⟨by simp,_,_,_,_,rfl⟩|refine⟨rfl,rfl,rfl,rfl,rfl,rfl,?_⟩|refine⟨?_,?_⟩)) (by omega)) (fun k=>?_)
   obtain⟨k,hk,hno⟩:=k
   conv=>whnf
   split
   ·rename_i hck
    have hck:k < out.length:=by simpa[new_len]using hck
    have hkn:k < (newU out).length:=by rw[new_len];exact hck
    have e1:(newU out)[k].attrs=out[k].2:=by rw[new_at]
    have e2:(newU out)[k].gone=[]:=by rw[new_at]
    have e3:(newU out)[k].new=out[k].1:=by rw[new_at]
    have hfr:=hI.few _ (List.getElem_mem hck)
    have hrr:=right_sf (hI.right _ (List.getElem_mem hck))
    have sak:=same_ok true false (newU out)[k].attrs a
    have hf:=fitN_ok (newU out) k hkn K[i] (by rw[e2];simp) (by rw[e3];omega) (by rw[e1];exact hrr)
    unfold FitC at hf
    conv=>whnf
    refine⟨rfl,⟨by simp only;omega,by simp only;omega⟩,?_⟩
    conv=>whnf
    rw[show 0 + ((k:Nat):Int).toNat=k by simp]
    refine⟨rfl,_,idxUt hkn,?_⟩
    conv=>whnf
    refine⟨_,[],fun h nx _=>pureV_pure sak ⟨.fr rfl,.fr rfl,trivial⟩,by simp,?_⟩
    cases hsm:sameA (newU out)[k].attrs a with
    | false=>
     have hcf:comF K[i] a out[k]=false:=by
      rw[e1]at hsm
      simp only[sameA,decide_eq_false_iff_not]at hsm
      simp[comF,hsm]
     conv=>whnf
     refine⟨by kernel_rfl,?_⟩
     conv=>whnf
     exact⟨⟨k + 1,by omega,hno.step hck hcf⟩,(Wk.i (by repeat' (first|exact LHa|exact .int_of (wrap64_succ hck (by have:=hI.len;simp only[maxLen];omega))|exact .fnL trivial ⟨.ptr rfl (by omega),trivial⟩|exact .A|exact LeL.fr rfl|exact LHb|refine Or.inl ⟨by simp,_,rfl,?_⟩|exact Or.inr ⟨by simp,_,_,_,_,rfl⟩|refine⟨rfl,rfl,rfl,rfl,rfl,rfl,?_⟩|refine⟨?_,?_⟩)) (by omega)),by simp only;omega⟩
    | true=>
     have hsm':out[k].2=a:=by
      rw[e1]at hsm
      simpa[sameA]using hsm
     conv=>whnf
     refine⟨rfl,⟨by simp only;omega,by simp only;omega⟩,?_⟩
     conv=>whnf
     refine⟨by kernel_rfl,?_⟩
     conv=>whnf
     rw[show 0 + ((k:Nat):Int).toNat=k by simp]
     refine callV_frame (nx:=3) (n0:=2) (renOf [(0,0),(1,1)]) (hf) (by repeat' (first|exact True.intro|exact .eptr rfl (by omega)|exact .fnL trivial ⟨.ptr rfl (by omega),trivial⟩|exact .A|exact LeL.fr rfl|refine⟨?_,?_⟩)) (LeH.of (by repeat' (first|exact LHa|exact .eptr rfl (by omega)|exact .fnL trivial ⟨.ptr rfl (by omega),trivial⟩|exact .A|exact LeL.fr rfl|exact LHb|refine Or.inl ⟨by simp,_,rfl,?_⟩|exact Or.inr ⟨by simp,_,_,_,_,rfl⟩|refine⟨rfl,rfl,rfl,rfl,rfl,rfl,?_⟩|refine⟨?_,?_⟩)) (show ∀b∈([0,1]:List Nat),∀b'∈([0,1]:List Nat),(renOf [(0,0),(1,1)]) b=(renOf [(0,0),(1,1)]) b'→b=b' by decide) (fun _ h=>by omega) (by omega) (by simp)) (fun b hb=>by match b,hb with|0,_=>exact ne_none_of rfl|1,_=>exact ne_none_of rfl) (by decide) ?_
     rintro v h' nx' ⟨rfl,rfl,rfl⟩ _
     refine⟨.bool (fitU moreN (newU out) k K[i]),[(0,arrU (putU moreN (newU out) k K[i])),(1,varP K[i]),(2,some (.var true 35 (cellsA false a)))],.free .bool,(by repeat' (first|exact True.intro|exact Or.inr ⟨by decide,rfl⟩|exact Or.inl ⟨0,rfl,by omega,_,rfl,.arr (rowsUt_free _)⟩|exact Or.inl ⟨1,rfl,by omega,_,rfl,.var (cellsP_free _)⟩|refine⟨?_,?_⟩)),?_⟩
     cases hfb:fitU moreN (newU out) k K[i]with
     | true=>
      obtain⟨hp1,hp2⟩:=comS_hit (e:=(K[i],a)) hck hno hsm' hfb
      rw[hp1]
      conv=>whnf
      exact⟨⟨i + 1,by omega⟩,(Wk.i (by repeat' (first|exact LHa|exact .int_of (wrap64_succ hc hgl)|exact .osl_of rfl (by omega) (by simp only[hs2,new_len,hp2])|exact LeB.fr (by simp only[hs2]) id id|exact .A|exact LeL.fr rfl|exact LHb|refine Or.inl ⟨by simp,_,rfl,?_⟩|exact Or.inr ⟨by simp,_,_,_,_,rfl⟩|refine⟨rfl,rfl,rfl,rfl,rfl,rfl,?_⟩|refine⟨?_,?_⟩)) (by omega)),by simp only;omega⟩
     | false=>
      have hcf:comF K[i] a out[k]=false:=by
       rw[fitN_eq hck,decide_eq_false_iff_not,hsm']at hfb
       simp[comF,hsm',hfb]
      rw[show putU moreN (newU out) k K[i]=newU out by rw[putU,hfb];rfl]
      conv=>whnf
      exact⟨⟨k + 1,by omega,hno.step hck hcf⟩,(Wk.i (by repeat' (first|exact LHa|exact .int_of (wrap64_succ hck (by have:=hI.len;simp only[maxLen];omega))|exact .fnL trivial ⟨.ptr rfl (by omega),trivial⟩|exact .A|exact LeL.fr rfl|exact LHb|refine Or.inl ⟨by simp,_,rfl,?_⟩|exact Or.inr ⟨by simp,_,_,_,_,rfl⟩|refine⟨rfl,rfl,rfl,rfl,rfl,rfl,?_⟩|refine⟨?_,?_⟩)) (by omega)),by simp only;omega⟩
   rename_i hck
   have hck:k=out.length:=by simp[new_len]at hck;omega
   subst hck
   have hn1:=comS_miss hno
   have hcp:=copy_pure false a hsa.1.1 hsa.1.2.1 hsa.1.2.2
   conv=>whnf
   refine⟨_,[],fun h nx _=>pureV_pure hcp ⟨.fr rfl,trivial⟩,by simp,?_⟩
   conv=>whnf
   refine⟨rfl,by simp,?_⟩
   conv=>whnf
   refine⟨⟨rfl,rfl,rfl,rfl,by decide⟩,by simp,⟨by simp[tab,tabOf,nth,new_len];have:=hI.len;omega,by simp[new_len];have:=hI.len;omega⟩,?_⟩
   conv=>whnf
   refine⟨by kernel_rfl,?_⟩
   conv=>whnf
   exact⟨⟨i + 1,by omega⟩,(Wk.all (renOf [(0,5)]) [3] (by repeat' (first|exact LHa|exact .int_of (wrap64_succ hc hgl)|exact .osl_of rfl (by omega) (by simp only[hs2,hn1];simp[newU])|exact Or.inl ⟨by decide,_,rfl,id,id,rfl,rfl,LeR.out (LeR.of_eq' (LeR.app (LeR.of_eq (List.take_of_length_le (by simp)) (.free (rowsUt_free (newU out)))) (ys':=rowsUt [⟨[],[K[i]],a⟩]) ⟨⟨.snil_sl,.freezeE (by simp) rfl (by simp) rfl (rowsP_free _),.fr rfl,.fr rfl,.fr rfl,.fr rfl,.fr rfl,.fr rfl,.fr rfl,.fr rfl,trivial⟩,trivial⟩) (by simp only[hs2,hn1];simp[newU]))⟩|exact .A|exact LeL.fr rfl|exact LHb|refine Or.inl ⟨by simp,_,rfl,?_⟩|exact Or.inr ⟨by simp,_,_,_,_,rfl⟩|refine⟨rfl,rfl,rfl,rfl,rfl,rfl,?_⟩|refine⟨?_,?_⟩)) (show ∀b∈([0]:List Nat),∀b'∈([0]:List Nat),(renOf [(0,5)]) b=(renOf [(0,5)]) b'→b=b' by decide) (fun _ h=>by omega) (by omega) (by intro z hz;simp only[List.mem_cons,List.not_mem_nil,or_false]at hz;rcases hz with rfl<;>exact ne_none_of rfl)),by simp only;omega⟩
 rename_i hc
 have hc:i=K.length:=by simp at hc;omega
 subst hc
 conv=>whnf
 rw[List.take_length]
 exact Ends.own rfl (rowsUt_free _) rfl rfl
end
section
open Go.Proofs.Tryz (prog)
theorem cellsOut_cold (s:SelfL) (pe:Peer) (pol:Policy) (m:List (Prefix × Attrs)):∀v∈cellsOut s pe pol m,Cold v:=by
 intro v hv
 simp only[cellsOut,List.mem_cons,List.not_mem_nil,or_false]at hv
 rcases hv with rfl|rfl|rfl|rfl|rfl|rfl|rfl|rfl|rfl|rfl<;>first|exact .int|exact .bool|exact encRus_cold _|exact Cold.imap (esA_cold _)
abbrev rowsRt (l:List Route):List (List V):=l.map (cellsRt false)
def encRts (l:List Route):V:=.sl false 14 (rowsRt l)
theorem rowsRt_free (l:List Route):∀x∈rowsRt l,∀v∈x,Free v:=by
 intro x hx v hv
 obtain⟨r,_,rfl⟩:=List.mem_map.1 hx
 exact cellsRt_free false r v hv
theorem encRts_free (l:List Route):Free (encRts l):=.sl (rowsRt_free l)
instance {l}:FreeI (encRts l):=⟨⟨encRts_free l⟩⟩
theorem idxRt {l:List Route} {i:Nat} (h:i < l.length):(rowsRt l)[(i:Int).toNat]? = some (cellsRt false l[i]):=by simp[h]
def encUt (fr:Bool) (l:List Upd):V:=.sl fr 10 (l.map (cellsU fr))
theorem encUt_free (fr:Bool) (l:List Upd):Free (encUt fr l):=.sl fun x hx v hv=>by
 obtain⟨u,_,rfl⟩:=List.mem_map.1 hx
 exact cellsU_free fr u v hv
theorem encUt_fresh (l:List Upd):Fresh (encUt true l):=.sl fun x hx v hv=>(rowsUt_ff l x hx v hv).2
instance {fr l}:FreeI (encUt fr l):=⟨⟨encUt_free fr l⟩⟩
def updP (m n:List (Prefix × Attrs)):List Upd:=goneU (goU (goKs (sortPs (keysE m)) n))++ newU (comU (comKs (sortPs (keysE n)) m n))
theorem updP_go (m n:List (Prefix × Attrs)):(goU (goKs (sortPs (keysE m)) n)).length≤m.length:=by
 have h1:=(goU_I (goKs (sortPs (keysE m)) n)).len
 have h2:(goKs (sortPs (keysE m)) n).length≤(sortPs (keysE m)).length:=List.length_filter_le _ _
 rw[sortPs_len,keysE_len]at h2
 omega
theorem comKs_right {K:List Prefix} {m n:List (Prefix × Attrs)} (hr:∀e∈n,rightA e.2=true):∀e∈comKs K m n,rightA e.2=true:=by
 intro e he
 obtain⟨q,_,hq⟩:=List.mem_filterMap.1 he
 simp only[comOne,Option.bind_eq_some_iff]at hq
 obtain⟨a,ha,hq⟩:=hq
 split at hq
 ·cases hq
 ·cases hq;exact hr _ (getE_mem ha)
theorem updP_come (m:List (Prefix × Attrs)) {n:List (Prefix × Attrs)} (hr:∀e∈n,rightA e.2=true):(comU (comKs (sortPs (keysE n)) m n)).length≤n.length:=by
 have h1:=(comU_I (comKs_right (K:=sortPs (keysE n)) (m:=m) hr)).len
 have h2:(comKs (sortPs (keysE n)) m n).length≤(sortPs (keysE n)).length:=List.length_filterMap_le _ _
 rw[sortPs_len,keysE_len]at h2
 omega
theorem pfxs_succ {l:List Route} {i:Nat} (h:i < l.length):pfxs (l.take (i + 1))=pfxs (l.take i)++ [l[i].pfx]:=by
 unfold pfxs
 rw[List.take_succ_eq_append_getElem h,List.map_append]
 rfl
theorem esP_none {ds:List Prefix} {p:Prefix} (h:p ∉ ds):MPos (esP ds) (encP p) none:=by
 intro kv hkv e
 obtain⟨x,hx,rfl⟩:=List.mem_map.1 hkv
 exact h (encP_inj e▸hx)
theorem esP_val_none {ds:List Prefix} {p:Prefix} (h:p ∉ ds):MVal (esP ds) (encP p) none:=esP_none h
theorem esP_val_some {ds:List Prefix} {p:Prefix} (h:p∈ds):MVal (esP ds) (encP p) (some (.bool true)):=by
 obtain⟨i,hi⟩:=List.getElem?_of_mem h
 exact⟨i,by simp[esP,hi]⟩
theorem esP_snoc (ds:List Prefix) (p:Prefix):mput (esP ds) (encP p) (.bool true) none=esP (ds ++ [p]):=by simp[mput,esP]
theorem LeB.esPut {h:Heap} {nx nx':Nat} {ρ:Nat→Nat} {Z:List Nat} {ds:List Prefix} {p:Prefix}:LeB h nx ρ nx' Z (.map (mput (esP ds) (encP p) (.bool true) none)) (.map (esP (ds ++ [p]))):=
 LeB.map (esP_snoc ds p) (by rw[esP_snoc];exact esP_free _)
attribute [local irreducible] CallV RoundV aggK VC VLo CallB
theorem tell_bad (s:SelfL) (pe:Peer) (pol:Policy) (m:List (Prefix × Attrs)) (l:List Route) (hsm:∀r∈l,smallA r.attrs) (h:okT l=false) :
  OutC 19 [.ptr 0 0,encRts l] (cellsOut s pe pol m) (cellsOut s pe pol m) (·=.tup [.snil,.int .i64 2]):=by
 obtain⟨j,hj,hr,hnd,hbad⟩:=okT_bad h
 unfold OutC
 refine callV_of (fn:=Go.Proofs.Tryz.f19) (body:=_) tab_ok mixed rfl rfl (by decide) (by simp[Go.Proofs.Tryz.f19]) ?_
 conv=>whnf
 refine callV_out (onone_ok s pe pol m) rfl (cellsOut_free _ _ _ _) (cellsOut_free _ _ _ _) ⟨.ptr rfl (by omega),trivial⟩ ?_
 rintro v rfl
 refine⟨.bool,?_⟩
 show _
 conv=>whnf
 intro hgl
 have hgl:l.length≤maxLen:=by simpa[gd]using hgl
 conv=>whnf
 refine vcg_loop tab_ok mixed (fun i:{i:Nat // i≤j}=>⟨[(0,.ptr 0 0),(6,.mapp 1),(7,.mapp 2),(17,encRts l),(18,cI l.length),(19,cI i.1)],[(0,varOut s pe pol m),(1,some (.map (esP (pfxs (l.take i.1))))),(2,some (.map (esA (nowL s pe pol (l.take i.1)))))],3⟩) (fun i=>l.length - i.1) ⟨0,by omega⟩ (Wk.i (by repeat' (first|exact LHa|exact LeL.freeV (cellsOut_free s pe pol m)|exact .mapp rfl (by omega)|exact LeB.map rfl (by simp)|exact .int_of (by simp)|exact .A|exact LeL.fr rfl|exact LHb|refine Or.inl ⟨by simp,_,rfl,?_⟩|exact Or.inr ⟨by simp,_,_,_,_,rfl⟩|refine⟨rfl,rfl,rfl,rfl,rfl,rfl,?_⟩|refine⟨?_,?_⟩)) (by omega)) (fun i=>?_)
 obtain⟨i,hi⟩:=i
 have hc:i < l.length:=by omega
 conv=>whnf
 split
 case' h_2 hh=>exfalso;simp at hh;omega
 conv=>whnf
 refine ixK (idxRt hc) ?_
 conv=>whnf
 refine callV_pure (oright_ok false l[i]) ⟨.fr rfl,trivial⟩ ?_
 rcases Nat.lt_or_ge i j with hij|hij
 ·have hri:(prefOk l[i].pfx && rightA l[i].attrs)=true:=hr _ (by rw[List.mem_take_iff_getElem];exact⟨i,by omega,rfl⟩)
  have hni:l[i].pfx ∉ pfxs (l.take i):=by
   intro hm
   have e:pfxs (l.take j)=pfxs (l.take i)++ l[i].pfx :: pfxs ((l.take j).drop (i + 1)):=by
    have h1:l.take j=l.take i ++ l[i] :: (l.take j).drop (i + 1):=by
     have h2:(l.take j).take i=l.take i:=by rw[List.take_take,Nat.min_eq_left (by omega)]
     have h3:i < (l.take j).length:=by rw[List.length_take];omega
     have h4:=(List.take_append_drop i (l.take j)).symm
     rw[h2,List.drop_eq_getElem_cons h3]at h4
     simpa using h4
    unfold pfxs
    conv=>lhs;rw[h1]
    simp
   rw[e,List.nodup_append]at hnd
   exact hnd.2.2 _ hm _ (by simp) rfl
  have hnp:=(nowL_keys (s:=s) (pe:=pe) (pol:=pol) (l:=l.take i) (p:=l[i].pfx))
  have hns:=nowL_succ (s:=s) (pe:=pe) (pol:=pol) hc
  have hsay:=says_ok s pe pol m l[i] (hsm _ (List.getElem_mem hc))
  rw[hri]
  conv=>whnf
  refine⟨esP_keys _,keyP _,none,esP_val_none hni,?_⟩
  conv=>whnf
  refine⟨esP_keys _,keyP _,none,esP_none hni,?_⟩
  conv=>whnf
  refine callV_out hsay rfl (cellsOut_free _ _ _ _) (cellsOut_free _ _ _ _) ⟨.ptr rfl (by omega),.fr rfl,trivial⟩ ?_
  rintro v rfl
  refine⟨.tup (by simp;exact⟨encA_free _ _,.bool⟩),?_⟩
  show _
  cases ho:sayO s pe pol l[i]with
  | none=>
   rw[ho,List.append_nil]at hns
   conv=>whnf
   exact⟨⟨i + 1,by omega⟩,(Wk.i (by repeat' (first|exact LHa|exact LeL.freeV (cellsOut_free s pe pol m)|exact .mapp rfl (by omega)|exact(by simp only[pfxs_succ hc];exact LeB.esPut)|exact LeB.map (by simp only[hns]) (esA_free _)|exact .int_of (wrap64_succ hc hgl)|exact .A|exact LeL.fr rfl|exact LHb|refine Or.inl ⟨by simp,_,rfl,?_⟩|exact Or.inr ⟨by simp,_,_,_,_,rfl⟩|refine⟨rfl,rfl,rfl,rfl,rfl,rfl,?_⟩|refine⟨?_,?_⟩)) (by omega)),by simp only;omega⟩
  | some a=>
   rw[ho]at hns
   conv=>whnf
   refine⟨esA_keys _,keyP _,none,put_new (fun h=>hni (hnp h)),?_⟩
   conv=>whnf
   exact⟨⟨i + 1,by omega⟩,(Wk.i (by repeat' (first|exact LHa|exact LeL.freeV (cellsOut_free s pe pol m)|exact .mapp rfl (by omega)|exact(by simp only[pfxs_succ hc];exact LeB.esPut)|exact(by simp only[hns];exact LeB.mapPut)|exact .int_of (wrap64_succ hc hgl)|exact .A|exact LeL.fr rfl|exact LHb|refine Or.inl ⟨by simp,_,rfl,?_⟩|exact Or.inr ⟨by simp,_,_,_,_,rfl⟩|refine⟨rfl,rfl,rfl,rfl,rfl,rfl,?_⟩|refine⟨?_,?_⟩)) (by omega)),by simp only;omega⟩
 ·obtain rfl:i=j:=by omega
  cases hri:prefOk l[i].pfx && rightA l[i].attrs with
  | false=>
   conv=>whnf
   exact⟨.tup [.snil,.int .i64 2],[(0,varOut s pe pol m)],1,(Ends.all id [] (by repeat' (first|exact LHa|exact LeL.freeV (cellsOut_free s pe pol m)|exact .tupL ⟨.fr rfl,.fr rfl,trivial⟩|exact .A|exact LeL.fr rfl|exact LHb|refine Or.inl ⟨by simp,_,rfl,?_⟩|exact Or.inr ⟨by simp,_,_,_,_,rfl⟩|refine⟨rfl,rfl,rfl,rfl,rfl,rfl,?_⟩|refine⟨?_,?_⟩)) (fun _ _ _ _ h=>h) (fun _ _=>rfl) (by omega) (by simp)),rfl,rfl,rfl⟩
  | true=>
   have hm:l[i].pfx∈pfxs (l.take i):=by
    rcases hbad with hb|hb
    ·rw[rightR,hri]at hb;cases hb
    ·exact hb
   conv=>whnf
   refine⟨esP_keys _,keyP _,some (.bool true),esP_val_some hm,?_⟩
   conv=>whnf
   exact⟨.tup [.snil,.int .i64 2],[(0,varOut s pe pol m)],1,(Ends.all id [] (by repeat' (first|exact LHa|exact LeL.freeV (cellsOut_free s pe pol m)|exact .tupL ⟨.fr rfl,.fr rfl,trivial⟩|exact .A|exact LeL.fr rfl|exact LHb|refine Or.inl ⟨by simp,_,rfl,?_⟩|exact Or.inr ⟨by simp,_,_,_,_,rfl⟩|refine⟨rfl,rfl,rfl,rfl,rfl,rfl,?_⟩|refine⟨?_,?_⟩)) (fun _ _ _ _ h=>h) (fun _ _=>rfl) (by omega) (by simp)),rfl,rfl,rfl⟩
theorem tell_B (s:SelfL) (pe:Peer) (pol:Policy) (m:List (Prefix × Attrs)) (hm:m.length≤1000) (l:List Route) (hl:l.length≤1000) (hsm:∀r∈l,smallA r.attrs) (h:okT l=true) :
  CallB prog 19 [.ptr 0 0,encRts l] [(0,varOut s pe pol m)] 1 (fun v h nx=>v=.tup [encUt true (updP m (nowL s pe pol l)),.int .i64 0]∧h=[(0,varOut s pe pol (nowL s pe pol l))]∧nx=1):=by
 obtain⟨hr,hnd⟩:=okT_out h
 have hF:FW Fence.wide:=.inl rfl
 refine CallB.tidy (R:=fun v h nx=>v=.tup [encUt true (updP m (nowL s pe pol l)),.int .i64 0]∧h=[(0,varOut s pe pol (nowL s pe pol l)),(0,varOut s pe pol m)]∧nx=1) ?_ (fun v h' nx' ⟨h1,h2,h3⟩=>⟨[(0,varOut s pe pol (nowL s pe pol l))],fun b=>by subst h2;rw[hget_cons,hget_cons,hget_cons];split<;>rfl,h1,rfl,h3⟩)
 refine callB_of_lo (fn:=Go.Proofs.Tryz.f19) (body:=_) tab_ok rfl rfl (by simp[Go.Proofs.Tryz.f19]) (Nat.le_of_ble_eq_true rfl) ?_
 refine vlo_seq (vcg_ok (rd:=false) tab_ok mixed hF (fun _=>rfl) ?_)
 conv=>whnf
 refine vlo_seq (vcg_ok (rd:=false) tab_ok mixed hF (fun _=>rfl) ?_)
 conv=>whnf
 refine callV_out (onone_ok s pe pol m) rfl (cellsOut_free _ _ _ _) (cellsOut_free _ _ _ _) ⟨.ptr rfl (by omega),trivial⟩ ?_
 rintro v rfl
 refine⟨.bool,?_⟩
 show _
 conv=>whnf
 refine vlo_seq (vcg_ok (rd:=false) tab_ok mixed hF (fun _=>rfl) ?_)
 conv=>whnf
 refine vlo_seq (vcg_ok (rd:=false) tab_ok mixed hF (fun _=>rfl) ?_)
 conv=>whnf
 intro hgl
 have hgl:l.length≤maxLen:=by simpa[gd]using hgl
 conv=>whnf
 refine vcg_loop tab_ok mixed (fun i:{i:Nat // i≤l.length}=>⟨[(0,.ptr 0 0),(6,.mapp 1),(7,.mapp 2),(17,encRts l),(18,cI l.length),(19,cI i.1)],[(0,varOut s pe pol m),(1,some (.map (esP (pfxs (l.take i.1))))),(2,some (.map (esA (nowL s pe pol (l.take i.1)))))],3⟩) (fun i=>l.length - i.1) ⟨0,by omega⟩ (Wk.i (by repeat' (first|exact LHa|exact LeL.freeV (cellsOut_free s pe pol m)|exact .mapp rfl (by omega)|exact LeB.map rfl (by simp)|exact .int_of (by simp)|exact .A|exact LeL.fr rfl|exact LHb|refine Or.inl ⟨by simp,_,rfl,?_⟩|exact Or.inr ⟨by simp,_,_,_,_,rfl⟩|refine⟨rfl,rfl,rfl,rfl,rfl,rfl,?_⟩|refine⟨?_,?_⟩)) (by omega)) (fun i=>?_)
 obtain⟨i,hi⟩:=i
 conv=>whnf
 split
 ·rename_i hc
  have hc:i < l.length:=by simpa using hc
  conv=>whnf
  refine ixK (idxRt hc) ?_
  conv=>whnf
  refine callV_pure (oright_ok false l[i]) ⟨.fr rfl,trivial⟩ ?_
  have hri:(prefOk l[i].pfx && rightA l[i].attrs)=true:=hr _ (List.getElem_mem hc)
  have hni:l[i].pfx ∉ pfxs (l.take i):=by
   intro hm
   have h4:=(List.take_append_drop i l).symm
   rw[List.drop_eq_getElem_cons hc]at h4
   have e:=congrArg pfxs h4
   rw[show pfxs (l.take i ++ l[i] :: l.drop (i + 1))=pfxs (l.take i)++ l[i].pfx :: pfxs (l.drop (i + 1))by unfold pfxs;rw[List.map_append];rfl]at e
   rw[e,List.nodup_append]at hnd
   exact hnd.2.2 _ hm _ (by simp) rfl
  have hnp:=(nowL_keys (s:=s) (pe:=pe) (pol:=pol) (l:=l.take i) (p:=l[i].pfx))
  have hns:=nowL_succ (s:=s) (pe:=pe) (pol:=pol) hc
  have hsay:=says_ok s pe pol m l[i] (hsm _ (List.getElem_mem hc))
  rw[hri]
  conv=>whnf
  refine⟨esP_keys _,keyP _,none,esP_val_none hni,?_⟩
  conv=>whnf
  refine⟨esP_keys _,keyP _,none,esP_none hni,?_⟩
  conv=>whnf
  refine callV_out hsay rfl (cellsOut_free _ _ _ _) (cellsOut_free _ _ _ _) ⟨.ptr rfl (by omega),.fr rfl,trivial⟩ ?_
  rintro v rfl
  refine⟨.tup (by simp;exact⟨encA_free _ _,.bool⟩),?_⟩
  show _
  cases ho:sayO s pe pol l[i]with
  | none=>
   rw[ho,List.append_nil]at hns
   conv=>whnf
   exact⟨⟨i + 1,by omega⟩,(Wk.i (by repeat' (first|exact LHa|exact LeL.freeV (cellsOut_free s pe pol m)|exact .mapp rfl (by omega)|exact(by simp only[pfxs_succ hc];exact LeB.esPut)|exact LeB.map (by simp only[hns]) (esA_free _)|exact .int_of (wrap64_succ hc hgl)|exact .A|exact LeL.fr rfl|exact LHb|refine Or.inl ⟨by simp,_,rfl,?_⟩|exact Or.inr ⟨by simp,_,_,_,_,rfl⟩|refine⟨rfl,rfl,rfl,rfl,rfl,rfl,?_⟩|refine⟨?_,?_⟩)) (by omega)),by simp only;omega⟩
  | some a=>
   rw[ho]at hns
   conv=>whnf
   refine⟨esA_keys _,keyP _,none,put_new (fun h=>hni (hnp h)),?_⟩
   conv=>whnf
   exact⟨⟨i + 1,by omega⟩,(Wk.i (by repeat' (first|exact LHa|exact LeL.freeV (cellsOut_free s pe pol m)|exact .mapp rfl (by omega)|exact(by simp only[pfxs_succ hc];exact LeB.esPut)|exact(by simp only[hns];exact LeB.mapPut)|exact .int_of (wrap64_succ hc hgl)|exact .A|exact LeL.fr rfl|exact LHb|refine Or.inl ⟨by simp,_,rfl,?_⟩|exact Or.inr ⟨by simp,_,_,_,_,rfl⟩|refine⟨rfl,rfl,rfl,rfl,rfl,rfl,?_⟩|refine⟨?_,?_⟩)) (by omega)),by simp only;omega⟩
 rename_i hc
 have hc:i=l.length:=by simp at hc;omega
 subst hc
 conv=>whnf
 rw[List.take_length]
 have hnr:∀e∈nowL s pe pol l,rightA e.2=true:=fun e he=>check_right (nowL_right e he)
 have hnl:(nowL s pe pol l).length≤1000:=Nat.le_trans nowL_len hl
 generalize nowL s pe pol l=n at hnr hnl ⊢
 refine vlo_weak (Wk.all id [2] (by repeat' (first|exact LHa|exact LeL.freeV (cellsOut_free s pe pol m)|exact LeV.freezeM (by simp) rfl rfl (esA_free _)|exact .A|exact LeL.fr rfl|exact LHb|refine Or.inl ⟨by simp,_,rfl,?_⟩|exact Or.inr ⟨by simp,_,_,_,_,rfl⟩|refine⟨rfl,rfl,rfl,rfl,rfl,rfl,?_⟩|refine⟨?_,?_⟩)) (fun _ _ _ _ h=>h) (fun _ _=>rfl) (by omega) (by intro z hz;simp only[List.mem_cons,List.not_mem_nil,or_false]at hz;rcases hz with rfl<;>exact ne_none_of rfl)) (s':=⟨[(0,.ptr 0 0),(7,.imap false (esA n))],[(0,varOut s pe pol m)],1⟩) ?_
 have hgo:=goes_ok m n hm hnl
 have hco:=PCon.of_own (comes_ok m n hm hnl hnr) (by simp) (rowsUt_free _)
 rw[List.take_of_length_le (by simp)]at hco
 refine vlo_put tab_ok mixed hF (b0:=0) (x:=0) (y:=7) (z:=12) (d0:=60) (d1:=61) (d2:=62) (d3:=63) (off:=9) (nx2:=1) (vy:=.imap false (esA n)) (vz:=encUt true (updP m n)) rfl rfl ⟨imapA_free n,Cold.imap (esA_cold n)⟩ rfl rfl (fun v hv=>⟨cellsOut_free s pe pol m v hv,cellsOut_cold s pe pol m v hv⟩) (by simp[cellsOut]) ⟨⟨_,_,_,_,_,97,3,95,95,_,rfl,⟨rfl,rfl,rfl,rfl,rfl⟩,⟨rfl,rfl,rfl,rfl,rfl⟩,⟨rfl,rfl,rfl,rfl,rfl⟩,rfl,rfl,by decide,by simp[tab,tabOf,nth],by decide,by simp[tab,tabOf,nth],rfl⟩,by decide⟩ (by decide) ⟨encUt_free _ _,encUt_fresh _⟩ (fun u=>?_) ?_
 ·conv=>whnf
  refine⟨.osl 0 10 0 (goneU (goU (goKs (sortPs (keysE m)) n))).length,[],.arr true false 86 10 (rowsUt (goneU (goU (goKs (sortPs (keysE m)) n)))),fun h nx _=>newV_own [] hgo ⟨.fr rfl,.fr rfl,trivial⟩ (by intro v hv;simp at hv;rcases hv with rfl|rfl<;>exact Cold.imap (esA_cold _)) (by simp) (rowsUt_ff _),by simp,?_⟩
  conv=>whnf
  refine⟨_,[],fun h nx _=>pureV_pure hco ⟨.fr rfl,.fr rfl,trivial⟩,by simp,?_⟩
  conv=>whnf
  refine⟨⟨rfl,rfl,rfl,rfl,by decide⟩,by simp,⟨by simp[tab,tabOf,nth,gone_len,new_len];have:=updP_go m n;have:=updP_come m hnr;omega,by simp[gone_len,new_len];have:=updP_go m n;have:=updP_come m hnr;omega⟩,?_⟩
  conv=>whnf
  exact⟨by kernel_rfl,⟨_,rfl⟩,⟨_,rfl⟩,Wk.of id [1] ⟨.freezeE (by simp) rfl (by simp) (by simp[updP,List.take_of_length_le]) (rowsUt_free _),trivial⟩ (LeH.nil (by omega) (fun _ _=>rfl) (one_none rfl))⟩
 ·conv=>whnf
  exact⟨.tup [encUt true (updP m n),.int .i64 0],[],0,Ends.all id [] ⟨.tupL ⟨.fr rfl,.fr rfl,trivial⟩,trivial⟩ (fun _ _ _ _ h=>h) (fun _ _=>rfl) (by omega) (by simp),.tup (by simp;exact⟨encUt_free _ _,.int⟩),.tup (by simp;exact⟨encUt_fresh _,.int⟩),rfl,rfl,rfl⟩
end
section
open Go.Proofs.Tryz (prog)
attribute [local irreducible] CallV RoundV aggK
theorem policyO_bad (s:SelfL) (pe:Peer) (pol:Policy) (m:List (Prefix × Attrs)) (p:Policy) (h:checkP p ≠ 0):OutC 21 [.ptr 0 0,encPo false p] (cellsOut s pe pol m) (cellsOut s pe pol m) (·=.int .i64 2):=by
 have hc:=check23_ok false p
 unfold OutC
 refine callV_of (fn:=Go.Proofs.Tryz.f21) (body:=_) tab_ok mixed rfl rfl (by decide) (by simp[Go.Proofs.Tryz.f21]) ?_
 conv=>whnf
 refine callV_out (onone_ok s pe pol m) rfl (cellsOut_free _ _ _ _) (cellsOut_free _ _ _ _) ⟨.ptr rfl (by omega),trivial⟩ ?_
 rintro v rfl
 refine⟨.bool,?_⟩
 show _
 conv=>whnf
 refine callV_pure hc ⟨.fr rfl,trivial⟩ ?_
 conv=>whnf
 rw[show(checkP p != 0)=true by simp[h]]
 conv=>whnf
 exact⟨.int .i64 2,[(0,varOut s pe pol m)],1,(Ends.all id [] (by repeat' (first|exact LHa|exact LeL.freeV (cellsOut_free s pe pol m)|exact .A|exact LeL.fr rfl|exact LHb|refine Or.inl ⟨by simp,_,rfl,?_⟩|exact Or.inr ⟨by simp,_,_,_,_,rfl⟩|refine⟨rfl,rfl,rfl,rfl,rfl,rfl,?_⟩|refine⟨?_,?_⟩)) (fun _ _ _ _ h=>h) (fun _ _=>rfl) (by omega) (by simp)),rfl,rfl,rfl⟩
theorem policyO_ok (s:SelfL) (pe:Peer) (pol:Policy) (m:List (Prefix × Attrs)) (p:Policy) (h:checkP p=0):OutC 21 [.ptr 0 0,encPo false p] (cellsOut s pe pol m) (cellsOut s pe p m) (·=.int .i64 0):=by
 have hc:=check23_ok false p
 rw[h]at hc
 have cp:=ocopied_ok false p (by have:=pol_small h;omega)
 unfold OutC
 refine callV_of (fn:=Go.Proofs.Tryz.f21) (body:=_) tab_ok mixed rfl rfl (by decide) (by simp[Go.Proofs.Tryz.f21]) ?_
 conv=>whnf
 refine callV_out (onone_ok s pe pol m) rfl (cellsOut_free _ _ _ _) (cellsOut_free _ _ _ _) ⟨.ptr rfl (by omega),trivial⟩ ?_
 rintro v rfl
 refine⟨.bool,?_⟩
 show _
 conv=>whnf
 refine callV_pure hc ⟨.fr rfl,trivial⟩ ?_
 conv=>whnf
 refine callV_pure cp ⟨.fr rfl,trivial⟩ ?_
 conv=>whnf
 exact⟨.int .i64 0,[(0,varOut s pe p m)],1,(Ends.all id [] (by repeat' (first|exact LHa|exact LeL.freeV (cellsOut_free s pe p m)|exact .A|exact LeL.fr rfl|exact LHb|refine Or.inl ⟨by simp,_,rfl,?_⟩|exact Or.inr ⟨by simp,_,_,_,_,rfl⟩|refine⟨rfl,rfl,rfl,rfl,rfl,rfl,?_⟩|refine⟨?_,?_⟩)) (fun _ _ _ _ h=>h) (fun _ _=>rfl) (by omega) (by simp)),rfl,rfl,rfl⟩
theorem clearO_ok (s:SelfL) (pe:Peer) (pol:Policy) (m:List (Prefix × Attrs)):OutC 22 [.ptr 0 0] (cellsOut s pe pol m) (cellsOut s pe pol []) (·=.int .i64 0):=by
 unfold OutC
 refine callV_of (fn:=Go.Proofs.Tryz.f22) (body:=_) tab_ok mixed rfl rfl (by decide) (by simp[Go.Proofs.Tryz.f22]) ?_
 conv=>whnf
 refine callV_out (onone_ok s pe pol m) rfl (cellsOut_free _ _ _ _) (cellsOut_free _ _ _ _) ⟨.ptr rfl (by omega),trivial⟩ ?_
 rintro v rfl
 refine⟨.bool,?_⟩
 show _
 conv=>whnf
 exact⟨.int .i64 0,[(0,varOut s pe pol [])],1,(Ends.all id [1] (by repeat' (first|exact LHa|exact⟨id,rfl,.fr rfl,.fr rfl,.fr rfl,.fr rfl,.fr rfl,.fr rfl,.fr rfl,.fr rfl,.fr rfl,LeV.freezeM (by simp) rfl rfl (by simp),trivial⟩|exact .A|exact LeL.fr rfl|exact LHb|refine Or.inl ⟨by simp,_,rfl,?_⟩|exact Or.inr ⟨by simp,_,_,_,_,rfl⟩|refine⟨rfl,rfl,rfl,rfl,rfl,rfl,?_⟩|refine⟨?_,?_⟩)) (fun _ _ _ _ h=>h) (fun _ _=>rfl) (by omega) (by intro z hz;simp only[List.mem_cons,List.not_mem_nil,or_false]at hz;rcases hz with rfl<;>exact ne_none_of rfl)),rfl,rfl,rfl⟩
theorem lenO_ok (s:SelfL) (pe:Peer) (pol:Policy) (m:List (Prefix × Attrs)):OutC 23 [.ptr 0 0] (cellsOut s pe pol m) (cellsOut s pe pol m) (·=.int .i64 m.length):=by
 unfold OutC
 refine callV_of (fn:=Go.Proofs.Tryz.f23) (body:=_) tab_ok mixed rfl rfl (by decide) (by simp[Go.Proofs.Tryz.f23]) ?_
 conv=>whnf
 refine callV_out (onone_ok s pe pol m) rfl (cellsOut_free _ _ _ _) (cellsOut_free _ _ _ _) ⟨.ptr rfl (by omega),trivial⟩ ?_
 rintro v rfl
 refine⟨.bool,?_⟩
 show _
 conv=>whnf
 exact⟨.int .i64 m.length,[(0,varOut s pe pol m)],1,(Ends.all id [] (by repeat' (first|exact LHa|exact LeL.freeV (cellsOut_free s pe pol m)|exact .int_of (by simp[esA])|exact .A|exact LeL.fr rfl|exact LHb|refine Or.inl ⟨by simp,_,rfl,?_⟩|exact Or.inr ⟨by simp,_,_,_,_,rfl⟩|refine⟨rfl,rfl,rfl,rfl,rfl,rfl,?_⟩|refine⟨?_,?_⟩)) (fun _ _ _ _ h=>h) (fun _ _=>rfl) (by omega) (by simp)),rfl,rfl,rfl⟩
theorem toldO_ok (s:SelfL) (pe:Peer) (pol:Policy) (m:List (Prefix × Attrs)):OutC 20 [.ptr 0 0] (cellsOut s pe pol m) (cellsOut s pe pol m) (·=.fn (.func 49) [] [.iptr true [.imap false (esA m)]]):=by
 unfold OutC
 refine callV_of (fn:=Go.Proofs.Tryz.f20) (body:=_) tab_ok mixed rfl rfl (by decide) (by simp[Go.Proofs.Tryz.f20]) ?_
 conv=>whnf
 refine callV_out (onone_ok s pe pol m) rfl (cellsOut_free _ _ _ _) (cellsOut_free _ _ _ _) ⟨.ptr rfl (by omega),trivial⟩ ?_
 rintro v rfl
 refine⟨.bool,?_⟩
 show _
 conv=>whnf
 refine callV_pure (cloneO_pure false false (esA m)) ⟨.fr rfl,trivial⟩ ?_
 conv=>whnf
 exact⟨.fn (.func 49) [] [.iptr true [.imap false (esA m)]],[(0,varOut s pe pol m)],1,(Ends.all id [1] (by repeat' (first|exact LHa|exact LeL.freeV (cellsOut_free s pe pol m)|exact .fnL trivial ⟨LeV.freezeP (by simp) rfl (by intro v hv;simp at hv;subst hv;exact imapA_free m),trivial⟩|exact .A|exact LeL.fr rfl|exact LHb|refine Or.inl ⟨by simp,_,rfl,?_⟩|exact Or.inr ⟨by simp,_,_,_,_,rfl⟩|refine⟨rfl,rfl,rfl,rfl,rfl,rfl,?_⟩|refine⟨?_,?_⟩)) (fun _ _ _ _ h=>h) (fun _ _=>rfl) (by omega) (by intro z hz;simp only[List.mem_cons,List.not_mem_nil,or_false]at hz;rcases hz with rfl<;>exact ne_none_of rfl)),rfl,rfl,rfl⟩
theorem copyO_ok (s:SelfL) (pe:Peer) (pol:Policy) (m:List (Prefix × Attrs)) (hl:pol.rules.length≤1000):CallV prog 24 [.ptr 0 0] [(0,varOut s pe pol m)] 1
  (fun v h nx=>v=.ptr 1 0∧h=[(0,varOut s pe pol m),(1,varOut s pe pol m)]∧nx=2):=by
 refine callV_of (fn:=Go.Proofs.Tryz.f24) (body:=_) tab_ok mixed rfl rfl (by decide) (by simp[Go.Proofs.Tryz.f24]) ?_
 conv=>whnf
 refine callV_out (onone_ok s pe pol m) rfl (cellsOut_free _ _ _ _) (cellsOut_free _ _ _ _) ⟨.ptr rfl (by omega),trivial⟩ ?_
 rintro v rfl
 refine⟨.bool,?_⟩
 show _
 conv=>whnf
 refine⟨_,[],fun h nx _=>pureV_pure (ocopied_ok false pol hl) ⟨.fr rfl,trivial⟩,by simp,?_⟩
 conv=>whnf
 refine⟨_,[],fun h nx _=>pureV_pure (cloneO_pure false false (esA m)) ⟨.fr rfl,trivial⟩,by simp,?_⟩
 conv=>whnf
 refine⟨by kernel_rfl,?_⟩
 conv=>whnf
 exact⟨.ptr 1 0,[(0,varOut s pe pol m),(1,varOut s pe pol m)],2,(Ends.all id [] (by repeat' (first|exact LHa|exact LeL.freeV (cellsOut_free s pe pol m)|exact .A|exact LeL.fr rfl|exact LHb|refine Or.inl ⟨by simp,_,rfl,?_⟩|exact Or.inr ⟨by simp,_,_,_,_,rfl⟩|refine⟨rfl,rfl,rfl,rfl,rfl,rfl,?_⟩|refine⟨?_,?_⟩)) (fun _ _ _ _ h=>h) (fun _ _=>rfl) (by omega) (by simp)),rfl,rfl,rfl⟩
theorem equalO_ok (a b:List (Prefix × Attrs)):PCon prog 52 [.imap false (esA a),.imap false (esA b),.fn (.func 53) [] []] (.bool (eqE a b)):=by
 have el:(((esA a).length:Int) != ((esA b).length:Int))=!decide (a.length=b.length):=by
  simp only[esA,List.length_map]
  cases h:decide (a.length=b.length)with
  | true=>simp[of_decide_eq_true h]
  | false=>have:=of_decide_eq_false h;simp[bne];omega
 refine callV_of (fn:=Go.Proofs.Tryz.f52) (body:=_) tab_ok mixed rfl rfl (by decide) (by simp[Go.Proofs.Tryz.f52]) ?_
 conv=>whnf
 rw[el]
 cases hd:decide (a.length=b.length)with
 | false=>
  conv=>whnf
  exact(Ends.pure [] (by repeat' (first|exact True.intro|exact .bool_of (by simp[eqE,hd])|exact .A|exact LeL.fr rfl|refine .tupL ?_|refine .aggL ?_|refine⟨?_,?_⟩)) (by simp))
 | true=>
 conv=>whnf
 refine vcg_loop tab_ok mixed (fun q:{q:List (Prefix × Attrs) × List (Prefix × Attrs) // (q.1 ++ q.2).Perm a∧∀e∈q.1,getE b e.1=some e.2}=>⟨[(1,.imap false (esA b)),(2,.fn (.func 53) [] []),(17,.ptr 0 0)],[(0,some (.iter none (esA q.1.2)))],1⟩) (fun q=>q.1.2.length) ⟨([],a),by simp,by simp⟩ (Wk.i (by repeat' (first|exact LHa|exact .free (imapA_free _)|exact LeB.iter rfl (esA_free _)|exact .free (.fn (by simp) (by simp))|exact .A|exact LeL.fr rfl|exact LHb|refine Or.inl ⟨by simp,_,rfl,?_⟩|exact Or.inr ⟨by simp,_,_,_,_,rfl⟩|refine⟨rfl,rfl,rfl,rfl,rfl,rfl,?_⟩|refine⟨?_,?_⟩)) (by omega)) (fun q=>?_)
 obtain⟨⟨xs,rest⟩,hq,hx⟩:=q
 conv=>whnf
 refine⟨fun h0=>?_,fun k kv hk=>?_⟩
 ·have h0:rest=[]:=by simpa[esA]using h0
  subst h0
  rw[List.append_nil]at hq
  conv=>whnf
  exact(Ends.pure [] (by repeat' (first|exact True.intro|exact .bool_of (by rw[eqE,hd,Bool.true_and];exact(List.all_eq_true.2 fun e he=>decide_eq_true (hx e (hq.mem_iff.2 he))).symm)|exact .A|exact LeL.fr rfl|refine .tupL ?_|refine .aggL ?_|refine⟨?_,?_⟩)) (by simp))
 ·obtain⟨⟨p,x⟩,hpk,rfl⟩:∃p,rest[k]? = some p∧kv=(encP p.1,encA false p.2):=by
   simp only[esA,List.getElem?_map,Option.map_eq_some_iff]at hk
   obtain⟨p,h1,h2⟩:=hk
   exact⟨p,h1,h2.symm⟩
  have hin:(p,x)∈a:=hq.mem_iff.1 (List.mem_append_right _ (List.mem_of_getElem? hpk))
  have hlt:(rest.eraseIdx k).length < rest.length:=by
   have:=(List.getElem?_eq_some_iff.1 hpk).1
   rw[List.length_eraseIdx]
   split<;>omega
  conv=>whnf
  cases hg:getE b p with
  | none=>
   refine⟨esA_keys _,keyP _,none,look_none hg,?_⟩
   conv=>whnf
   exact(Ends.pure [] (by repeat' (first|exact True.intro|exact .bool_of (eqE_false hin (by rw[hg];simp)).symm|exact .A|exact LeL.fr rfl|refine .tupL ?_|refine .aggL ?_|refine⟨?_,?_⟩)) (by simp))
  | some y=>
   refine⟨esA_keys _,keyP _,some (encA false y),look_some hg,?_⟩
   conv=>whnf
   refine callV_pure (same_ok false false x y) ⟨.fr rfl,.fr rfl,trivial⟩ ?_
   cases hs:sameA x y with
   | false=>
    conv=>whnf
    exact(Ends.pure [] (by repeat' (first|exact True.intro|exact .bool_of (eqE_false hin (by rw[hg];intro e;exact of_decide_eq_false hs (Option.some.inj e).symm)).symm|exact .A|exact LeL.fr rfl|refine .tupL ?_|refine .aggL ?_|refine⟨?_,?_⟩)) (by simp))
   | true=>
    conv=>whnf
    exact⟨⟨(xs ++ [(p,x)],rest.eraseIdx k),(perm_stepA hpk).trans hq,fun e he=>by
     rcases List.mem_append.1 he with he|he
     ·exact hx e he
     ·obtain rfl:=List.mem_singleton.1 he
      rw[hg,of_decide_eq_true hs]⟩,(Wk.i (by repeat' (first|exact LHa|exact .free (imapA_free _)|exact LeB.iter (esA_erase rest k) (fun kv h=>esA_free _ kv (List.mem_of_mem_eraseIdx h))|exact .free (.fn (by simp) (by simp))|exact .A|exact LeL.fr rfl|exact LHb|refine Or.inl ⟨by simp,_,rfl,?_⟩|exact Or.inr ⟨by simp,_,_,_,_,rfl⟩|refine⟨rfl,rfl,rfl,rfl,rfl,rfl,?_⟩|refine⟨?_,?_⟩)) (by omega)),hlt⟩
def litsSf (s:SelfL):List Lit:=[litW s.sys,litW s.id,litW s.addr]
theorem litsSf_inj {p q:SelfL}:litsSf p=litsSf q↔p=q:=by
 constructor
 ·intro h
  obtain⟨a,b,c⟩:=p
  obtain⟨a',b',c'⟩:=q
  simp only[litsSf,List.cons.injEq,and_true]at h
  obtain⟨h1,h2,h3⟩:=h
  rw[litW_inj h1,litW_inj h2,litW_inj h3]
 ·exact fun h=>by rw[h]
theorem litSf (p:SelfL) {K:List Lit→Prop} (h:K (litsSf p)):litK tab 60 24 (cellsSf p) K:=And.intro (wfW _) (And.intro (wfW _) (And.intro (wfW _) h))
theorem eqlSf (r s:SelfL) {K:V→Prop} (h:K (.bool (decide (r=s)))):aggK tab .eql 24 (cellsSf r) (cellsSf s) K:=by
 refine aggK_eql rfl rfl ?_
 refine litSf r ?_
 refine litSf s ?_
 exact⟨decide (r=s),by rw[litsSf_inj];simp,h⟩
theorem neqSf (r s:SelfL) {K:V→Prop} (h:K (.bool (!decide (r=s)))):aggK tab .neq 24 (cellsSf r) (cellsSf s) K:=by
 refine aggK_neq rfl rfl ?_
 refine litSf r ?_
 refine litSf s ?_
 exact⟨decide (r=s),by rw[litsSf_inj];simp,h⟩
theorem sameO_ok (s s':SelfL) (pe pe':Peer) (pol pol':Policy) (m m':List (Prefix × Attrs)):CallV prog 25 [.ptr 0 0,.ptr 1 0] [(0,varOut s pe pol m),(1,varOut s' pe' pol' m')] 2
  (fun v h nx=>v=.bool (decide (s=s')&& decide (pe=pe')&& sameP pol pol' && eqE m m')∧h=[(0,varOut s pe pol m),(1,varOut s' pe' pol' m')]∧nx=2):=by
 refine callV_of (fn:=Go.Proofs.Tryz.f25) (body:=_) tab_ok mixed rfl rfl (by decide) (by simp[Go.Proofs.Tryz.f25]) ?_
 conv=>whnf
 refine callV_out (onone_ok s pe pol m) rfl (cellsOut_free _ _ _ _) (cellsOut_free _ _ _ _) ⟨.ptr rfl (by omega),trivial⟩ ?_
 rintro v rfl
 refine⟨.bool,?_⟩
 show _
 conv=>whnf
 refine callV_out (onone_ok s' pe' pol' m') rfl (cellsOut_free _ _ _ _) (cellsOut_free _ _ _ _) ⟨.ptr rfl (by omega),trivial⟩ ?_
 rintro v rfl
 refine⟨.bool,?_⟩
 show _
 conv=>whnf
 refine eqlSf s s' ?_
 cases h0:decide (s=s')with
 | false=>
  conv=>whnf
  refine⟨drawOk_fast (by kernel_rfl),?_⟩
  conv=>whnf
  exact⟨.bool false,[(0,varOut s pe pol m),(1,varOut s' pe' pol' m')],2,(Ends.all id [] (by repeat' (first|exact LHa|exact LeL.freeV (cellsOut_free s pe pol m)|exact LeL.freeV (cellsOut_free s' pe' pol' m')|exact .A|exact LeL.fr rfl|exact LHb|refine Or.inl ⟨by simp,_,rfl,?_⟩|exact Or.inr ⟨by simp,_,_,_,_,rfl⟩|refine⟨rfl,rfl,rfl,rfl,rfl,rfl,?_⟩|refine⟨?_,?_⟩)) (fun _ _ _ _ h=>h) (fun _ _=>rfl) (by omega) (by simp)),by simp,rfl,rfl⟩
 | true=>
 conv=>whnf
 refine eqlPe pe pe' ?_
 cases h1:decide (pe=pe')with
 | false=>
  conv=>whnf
  refine⟨drawOk_fast (by kernel_rfl),?_⟩
  conv=>whnf
  exact⟨.bool false,[(0,varOut s pe pol m),(1,varOut s' pe' pol' m')],2,(Ends.all id [] (by repeat' (first|exact LHa|exact LeL.freeV (cellsOut_free s pe pol m)|exact LeL.freeV (cellsOut_free s' pe' pol' m')|exact .A|exact LeL.fr rfl|exact LHb|refine Or.inl ⟨by simp,_,rfl,?_⟩|exact Or.inr ⟨by simp,_,_,_,_,rfl⟩|refine⟨rfl,rfl,rfl,rfl,rfl,rfl,?_⟩|refine⟨?_,?_⟩)) (fun _ _ _ _ h=>h) (fun _ _=>rfl) (by omega) (by simp)),by simp,rfl,rfl⟩
 | true=>
 conv=>whnf
 refine⟨_,[],fun h nx _=>pureV_pure (psame_ok false false pol pol') ⟨.fr rfl,.fr rfl,trivial⟩,by simp,?_⟩
 cases h2:sameP pol pol' with
 | false=>
  conv=>whnf
  refine⟨drawOk_fast (by kernel_rfl),?_⟩
  conv=>whnf
  exact⟨.bool false,[(0,varOut s pe pol m),(1,varOut s' pe' pol' m')],2,(Ends.all id [] (by repeat' (first|exact LHa|exact LeL.freeV (cellsOut_free s pe pol m)|exact LeL.freeV (cellsOut_free s' pe' pol' m')|exact .A|exact LeL.fr rfl|exact LHb|refine Or.inl ⟨by simp,_,rfl,?_⟩|exact Or.inr ⟨by simp,_,_,_,_,rfl⟩|refine⟨rfl,rfl,rfl,rfl,rfl,rfl,?_⟩|refine⟨?_,?_⟩)) (fun _ _ _ _ h=>h) (fun _ _=>rfl) (by omega) (by simp)),by simp,rfl,rfl⟩
 | true=>
 conv=>whnf
 refine⟨_,[],fun h nx _=>pureV_pure (equalO_ok m m') ⟨.fr rfl,.fr rfl,.fr rfl,trivial⟩,by simp,?_⟩
 conv=>whnf
 refine⟨drawOk_fast (by kernel_rfl),?_⟩
 conv=>whnf
 exact⟨.bool (eqE m m'),[(0,varOut s pe pol m),(1,varOut s' pe' pol' m')],2,(Ends.all id [] (by repeat' (first|exact LHa|exact LeL.freeV (cellsOut_free s pe pol m)|exact LeL.freeV (cellsOut_free s' pe' pol' m')|exact .A|exact LeL.fr rfl|exact LHb|refine Or.inl ⟨by simp,_,rfl,?_⟩|exact Or.inr ⟨by simp,_,_,_,_,rfl⟩|refine⟨rfl,rfl,rfl,rfl,rfl,rfl,?_⟩|refine⟨?_,?_⟩)) (fun _ _ _ _ h=>h) (fun _ _=>rfl) (by omega) (by simp)),by simp,rfl,rfl⟩
end
section
open Go.Proofs.Tryz (prog)
attribute [local irreducible] CallV RoundV aggK VC
structure OutS where
 self:SelfL
 peer:Peer
 pol:Policy
 told:List (Prefix × Attrs)
def cellsOS (o:OutS):List V:=[cW o.self.sys,cW o.self.id,cW o.self.addr,cW o.peer.sys,cW o.peer.id,cW o.peer.addr,.bool o.peer.inner,encRus false o.pol.rules,.bool o.pol.els,encEns false o.told]
def encOS (o:OutS):V:=.agg (cellsOS o)
theorem cellsOS_free (o:OutS):∀v∈cellsOS o,Free v:=by
 intro v hv
 simp only[cellsOS,List.mem_cons,List.not_mem_nil,or_false]at hv
 rcases hv with rfl|rfl|rfl|rfl|rfl|rfl|rfl|rfl|rfl|rfl<;>first|exact .int|exact .bool|exact .sl (rowsRu_free _)|exact encEns_free _ _
theorem encOS_free (o:OutS):Free (encOS o):=.agg (cellsOS_free o)
instance {o}:FreeI (encOS o):=⟨⟨encOS_free o⟩⟩
instance {o}:FreeLI (cellsOS o):=⟨⟨cellsOS_free o⟩⟩
def noOS:OutS:=⟨⟨0,0,0⟩,⟨0,0,0,false⟩,⟨[],false⟩,[]⟩
def newOS (s:SelfL) (pe:Peer) (pol:Policy):OutS:=if newO s pe pol then⟨s,pe,pol,[]⟩else noOS
def newOE (s:SelfL) (pe:Peer) (pol:Policy):Int:=if newO s pe pol then 0 else 2
theorem LeV.noOS {h:Heap} {nx nx':Nat} {ρ:Nat→Nat} {Z:List Nat}:LeV h nx ρ nx' Z (.agg [.int .u32 0,.int .u32 0,.int .u32 0,.int .u32 0,.int .u32 0,.int .u32 0,.bool false,.snil,.bool false,.snil]) (encOS noOS):=
 .aggL ⟨.fr rfl,.fr rfl,.fr rfl,.fr rfl,.fr rfl,.fr rfl,.fr rfl,.snil_sl,.fr rfl,.snil_sl,trivial⟩
theorem beqZ (x:UInt32):((x.toNat:Int) == 0)=decide (x=0):=beqW x 0
theorem refNew26_ok (s:SelfL) (pe:Peer) (pol:Policy):PCon prog 12 [encSf s,encPe pe,encPo false pol] (.tup [encOS (newOS s pe pol),.int .i64 (newOE s pe pol)]):=by
 have rp:=rightPeer_ok s.sys pe
 have rc:=rcheck23_ok false pol
 refine callV_of (fn:=Go.Proofs.Tryz.f12) (body:=_) tab_ok mixed rfl rfl (by decide) (by simp[Go.Proofs.Tryz.f12]) ?_
 conv=>whnf
 rw[beqZ]
 cases h1:decide (s.id=0)with
 | true=>
  have h1':=of_decide_eq_true h1
  rw[newOS,newOE,show newO s pe pol=false by simp[newO,h1'],if_neg (by decide),if_neg (by decide)]
  conv=>whnf
  exact Ends.pure [] (.tupL ⟨.noOS,.fr rfl,trivial⟩) (by simp)
 | false=>
 conv=>whnf
 rw[beqZ]
 cases h2:decide (s.addr=0)with
 | true=>
  have h2':=of_decide_eq_true h2
  rw[newOS,newOE,show newO s pe pol=false by simp[newO,h2'],if_neg (by decide),if_neg (by decide)]
  conv=>whnf
  exact Ends.pure [] (.tupL ⟨.noOS,.fr rfl,trivial⟩) (by simp)
 | false=>
 conv=>whnf
 refine callV_pure rp ⟨.fr rfl,.fr rfl,trivial⟩ ?_
 cases h3:peerB s.sys pe with
 | false=>
  rw[newOS,newOE,show newO s pe pol=false by simp[newO,h3],if_neg (by decide),if_neg (by decide)]
  conv=>whnf
  exact Ends.pure [] (.tupL ⟨.noOS,.fr rfl,trivial⟩) (by simp)
 | true=>
 conv=>whnf
 refine callV_pure rc ⟨.fr rfl,trivial⟩ ?_
 by_cases h4:checkP pol=0
 ·have h1':=of_decide_eq_false h1
  have h2':=of_decide_eq_false h2
  rw[newOS,newOE,show newO s pe pol=true by simp[newO,h1',h2',h3,h4],if_pos rfl,if_pos rfl,h4]
  conv=>whnf
  exact Ends.pure [] (.tupL ⟨.aggL ⟨.fr rfl,.fr rfl,.fr rfl,.fr rfl,.fr rfl,.fr rfl,.fr rfl,.fr rfl,.fr rfl,.snil_sl,trivial⟩,.fr rfl,trivial⟩) (by simp)
 ·conv=>whnf
  rw[show(checkP pol != 0)=true by simp[h4]]
  rw[newOS,newOE,show newO s pe pol=false by simp[newO,h4],if_neg (by decide),if_neg (by decide)]
  conv=>whnf
  exact Ends.pure [] (.tupL ⟨.noOS,.fr rfl,trivial⟩) (by simp)
def skipW (o:OutS) (r:Route):Bool:=(decide (r.peer.sys=o.peer.sys)&& decide (r.peer.id=o.peer.id)&& decide (r.peer.addr=o.peer.addr)) || (!ownR r && o.peer.inner && r.peer.inner)
theorem sayK6 (s:SelfL) (pe:Peer) (pol:Policy) (t:List (Prefix × Attrs)) (r:Route):sayK s pe pol r 6=if prefOk r.pfx && rightA r.attrs then(if skipW ⟨s,pe,pol,t⟩ r then none else
  if(byR pol s.sys r.pfx (sayM (ownR r) pe.inner r.attrs)).2 then(if pe.inner then some (byR pol s.sys r.pfx (sayM (ownR r) pe.inner r.attrs)).1 else if prepE (byR pol s.sys r.pfx (sayM (ownR r) pe.inner r.attrs)).1 s.sys 1=0 then some { prepA (byR pol s.sys r.pfx (sayM (ownR r) pe.inner r.attrs)).1 s.sys 1 with next:=s.addr } else none)else none)else none:=by
 simp only[sayK,stepS,skipW,Option.bind_some]
 cases hr:prefOk r.pfx && rightA r.attrs<;>simp only[Bool.false_eq_true,if_false,if_true,Option.bind_none,Option.bind_some]
 cases h1:decide (r.peer.sys=pe.sys)<;>cases h2:decide (r.peer.id=pe.id)<;>cases h3:decide (r.peer.addr=pe.addr)<;>cases h4:ownR r<;>cases h5:pe.inner<;>cases h6:r.peer.inner<;>simp
 all_goals (cases h7:(byR pol s.sys r.pfx _).2<;>simp)
abbrev hw26 (o:OutS) (r:Route) (c:List V):Heap:=[(0,some (.var true 47 (cellsOS o))),(1,some (.var true 37 (cellsRt false r))),(2,some (.var true 35 zeroC)),(3,some (.var true 35 c))]
theorem words26_ok (o:OutS) (r:Route):PCon prog 40 [encOS o,encRt false r] (optV false (sayK o.self o.peer o.pol r 6)):=by
 have hF:FW Fence.wide:=.inl rfl
 have r1:=rRight_ok r.pfx
 have r2:=right_ok false r.attrs
 refine callV_of_vc (fn:=Go.Proofs.Tryz.f40) (body:=_) tab_ok rfl rfl (by simp[Go.Proofs.Tryz.f40]) (Nat.le_of_ble_eq_true rfl) ?_
 refine vc_seq (vcg_ok (rd:=false) tab_ok mixed hF (fun _=>rfl) ?_)
 conv=>whnf
 refine vc_seq (vcg_ok (rd:=false) tab_ok mixed hF (fun _=>rfl) ?_)
 conv=>whnf
 refine callV_pure r1 ⟨.fr rfl,trivial⟩ ?_
 cases hp:prefOk r.pfx with
 | false=>
  conv=>whnf
  rw[show sayK o.self o.peer o.pol r 6=none by rw[sayK6 _ _ _ o.told,hp];simp]
  exact Ends.pure [] (.tupL ⟨.noA,.fr rfl,trivial⟩) (by simp)
 | true=>
 conv=>whnf
 refine callV_pure r2 ⟨.fr rfl,trivial⟩ ?_
 cases hq:rightA r.attrs with
 | false=>
  conv=>whnf
  rw[show sayK o.self o.peer o.pol r 6=none by rw[sayK6 _ _ _ o.told,hq];simp]
  exact Ends.pure [] (.tupL ⟨.noA,.fr rfl,trivial⟩) (by simp)
 | true=>
 have hr:(prefOk r.pfx && rightA r.attrs)=true:=by rw[hp,hq];rfl
 conv=>whnf
 refine vc_seq (vcg_ok (rd:=false) tab_ok mixed hF (fun _=>rfl) ?_)
 conv=>whnf
 refine eqlPe r.peer noPe ?_
 conv=>whnf
 refine vc_join tab_ok mixed hF (rd:=false) (fun _=>rfl) (fun _:{u:Unit // skipW o r=false}=>⟨[(2,.ptr 0 0),(3,.ptr 1 0),(4,.ptr 2 0),(6,.bool (ownR r))],[(0,some (.var true 47 (cellsOS o))),(1,some (.var true 37 (cellsRt false r))),(2,some (.var true 35 zeroC))],3⟩) ?_ fun q=>?_
 ·conv=>whnf
  rw[beqW]
  cases h1:decide (r.peer.sys=o.peer.sys)with
  | false=>
   conv=>whnf
   cases h4:decide (r.peer=noPe)with
   | true=>
    conv=>whnf
    exact⟨⟨(),by simp[skipW,ownR,h4,h1]⟩,(Wk.i (by repeat' (first|exact LHa|exact LeL.freeV (cellsOS_free o)|exact LeL.freeV (cellsRt_free false r)|exact .bool_of (by simp[ownR,h4])|exact .A|exact LeL.fr rfl|exact LHb|refine Or.inl ⟨by simp,_,rfl,?_⟩|exact Or.inr ⟨by simp,_,_,_,_,rfl⟩|refine⟨rfl,rfl,rfl,rfl,rfl,rfl,?_⟩|refine⟨?_,?_⟩)) (by omega))⟩
   | false=>
   conv=>whnf
   cases h5:o.peer.inner with
   | false=>
    conv=>whnf
    exact⟨⟨(),by simp[skipW,ownR,h5,h1]⟩,(Wk.i (by repeat' (first|exact LHa|exact LeL.freeV (cellsOS_free o)|exact LeL.freeV (cellsRt_free false r)|exact .bool_of (by simp[ownR,h4])|exact .A|exact LeL.fr rfl|exact LHb|refine Or.inl ⟨by simp,_,rfl,?_⟩|exact Or.inr ⟨by simp,_,_,_,_,rfl⟩|refine⟨rfl,rfl,rfl,rfl,rfl,rfl,?_⟩|refine⟨?_,?_⟩)) (by omega))⟩
   | true=>
   conv=>whnf
   cases h6:r.peer.inner with
   | false=>
    conv=>whnf
    exact⟨⟨(),by simp[skipW,ownR,h6,h1]⟩,(Wk.i (by repeat' (first|exact LHa|exact LeL.freeV (cellsOS_free o)|exact LeL.freeV (cellsRt_free false r)|exact .bool_of (by simp[ownR,h4])|exact .A|exact LeL.fr rfl|exact LHb|refine Or.inl ⟨by simp,_,rfl,?_⟩|exact Or.inr ⟨by simp,_,_,_,_,rfl⟩|refine⟨rfl,rfl,rfl,rfl,rfl,rfl,?_⟩|refine⟨?_,?_⟩)) (by omega))⟩
   | true=>
   conv=>whnf
   rw[show sayK o.self o.peer o.pol r 6=none by rw[sayK6 _ _ _ o.told,hr,show skipW ⟨o.self,o.peer,o.pol,o.told⟩ r=true by simp[skipW,ownR,h4,h5,h6]];simp]
   exact Ends.pure [] (.tupL ⟨.noA,.fr rfl,trivial⟩) (by simp)
  | true=>
  conv=>whnf
  rw[beqW]
  cases h2:decide (r.peer.id=o.peer.id)with
  | false=>
   conv=>whnf
   cases h4:decide (r.peer=noPe)with
   | true=>
    conv=>whnf
    exact⟨⟨(),by simp[skipW,ownR,h4,h2]⟩,(Wk.i (by repeat' (first|exact LHa|exact LeL.freeV (cellsOS_free o)|exact LeL.freeV (cellsRt_free false r)|exact .bool_of (by simp[ownR,h4])|exact .A|exact LeL.fr rfl|exact LHb|refine Or.inl ⟨by simp,_,rfl,?_⟩|exact Or.inr ⟨by simp,_,_,_,_,rfl⟩|refine⟨rfl,rfl,rfl,rfl,rfl,rfl,?_⟩|refine⟨?_,?_⟩)) (by omega))⟩
   | false=>
   conv=>whnf
   cases h5:o.peer.inner with
   | false=>
    conv=>whnf
    exact⟨⟨(),by simp[skipW,ownR,h5,h2]⟩,(Wk.i (by repeat' (first|exact LHa|exact LeL.freeV (cellsOS_free o)|exact LeL.freeV (cellsRt_free false r)|exact .bool_of (by simp[ownR,h4])|exact .A|exact LeL.fr rfl|exact LHb|refine Or.inl ⟨by simp,_,rfl,?_⟩|exact Or.inr ⟨by simp,_,_,_,_,rfl⟩|refine⟨rfl,rfl,rfl,rfl,rfl,rfl,?_⟩|refine⟨?_,?_⟩)) (by omega))⟩
   | true=>
   conv=>whnf
   cases h6:r.peer.inner with
   | false=>
    conv=>whnf
    exact⟨⟨(),by simp[skipW,ownR,h6,h2]⟩,(Wk.i (by repeat' (first|exact LHa|exact LeL.freeV (cellsOS_free o)|exact LeL.freeV (cellsRt_free false r)|exact .bool_of (by simp[ownR,h4])|exact .A|exact LeL.fr rfl|exact LHb|refine Or.inl ⟨by simp,_,rfl,?_⟩|exact Or.inr ⟨by simp,_,_,_,_,rfl⟩|refine⟨rfl,rfl,rfl,rfl,rfl,rfl,?_⟩|refine⟨?_,?_⟩)) (by omega))⟩
   | true=>
   conv=>whnf
   rw[show sayK o.self o.peer o.pol r 6=none by rw[sayK6 _ _ _ o.told,hr,show skipW ⟨o.self,o.peer,o.pol,o.told⟩ r=true by simp[skipW,ownR,h4,h5,h6]];simp]
   exact Ends.pure [] (.tupL ⟨.noA,.fr rfl,trivial⟩) (by simp)
  | true=>
  conv=>whnf
  rw[beqW]
  cases h3:decide (r.peer.addr=o.peer.addr)with
  | false=>
   conv=>whnf
   cases h4:decide (r.peer=noPe)with
   | true=>
    conv=>whnf
    exact⟨⟨(),by simp[skipW,ownR,h4,h3]⟩,(Wk.i (by repeat' (first|exact LHa|exact LeL.freeV (cellsOS_free o)|exact LeL.freeV (cellsRt_free false r)|exact .bool_of (by simp[ownR,h4])|exact .A|exact LeL.fr rfl|exact LHb|refine Or.inl ⟨by simp,_,rfl,?_⟩|exact Or.inr ⟨by simp,_,_,_,_,rfl⟩|refine⟨rfl,rfl,rfl,rfl,rfl,rfl,?_⟩|refine⟨?_,?_⟩)) (by omega))⟩
   | false=>
   conv=>whnf
   cases h5:o.peer.inner with
   | false=>
    conv=>whnf
    exact⟨⟨(),by simp[skipW,ownR,h5,h3]⟩,(Wk.i (by repeat' (first|exact LHa|exact LeL.freeV (cellsOS_free o)|exact LeL.freeV (cellsRt_free false r)|exact .bool_of (by simp[ownR,h4])|exact .A|exact LeL.fr rfl|exact LHb|refine Or.inl ⟨by simp,_,rfl,?_⟩|exact Or.inr ⟨by simp,_,_,_,_,rfl⟩|refine⟨rfl,rfl,rfl,rfl,rfl,rfl,?_⟩|refine⟨?_,?_⟩)) (by omega))⟩
   | true=>
   conv=>whnf
   cases h6:r.peer.inner with
   | false=>
    conv=>whnf
    exact⟨⟨(),by simp[skipW,ownR,h6,h3]⟩,(Wk.i (by repeat' (first|exact LHa|exact LeL.freeV (cellsOS_free o)|exact LeL.freeV (cellsRt_free false r)|exact .bool_of (by simp[ownR,h4])|exact .A|exact LeL.fr rfl|exact LHb|refine Or.inl ⟨by simp,_,rfl,?_⟩|exact Or.inr ⟨by simp,_,_,_,_,rfl⟩|refine⟨rfl,rfl,rfl,rfl,rfl,rfl,?_⟩|refine⟨?_,?_⟩)) (by omega))⟩
   | true=>
   conv=>whnf
   rw[show sayK o.self o.peer o.pol r 6=none by rw[sayK6 _ _ _ o.told,hr,show skipW ⟨o.self,o.peer,o.pol,o.told⟩ r=true by simp[skipW,ownR,h4,h5,h6]];simp]
   exact Ends.pure [] (.tupL ⟨.noA,.fr rfl,trivial⟩) (by simp)
  | true=>
  conv=>whnf
  rw[show sayK o.self o.peer o.pol r 6=none by rw[sayK6 _ _ _ o.told,hr,show skipW ⟨o.self,o.peer,o.pol,o.told⟩ r=true by simp[skipW,h1,h2,h3]];simp]
  exact Ends.pure [] (.tupL ⟨.noA,.fr rfl,trivial⟩) (by simp)
 obtain⟨_,hsk⟩:=q
 have hk:=sayK6 o.self o.peer o.pol o.told r
 rw[hr,if_pos rfl,show skipW ⟨o.self,o.peer,o.pol,o.told⟩ r=false from hsk,if_neg (by decide)]at hk
 have hby:=rby_ok false false o.pol o.self.sys r.pfx (sayM (ownR r) o.peer.inner r.attrs)
 rw[byV_R]at hby
 refine vc_seq (vcg_ok (rd:=false) tab_ok mixed hF (fun _=>rfl) ?_)
 conv=>whnf
 refine vc_join tab_ok mixed hF (rd:=false) (fun _=>rfl) (fun _:Unit=>⟨[(2,.ptr 0 0),(3,.ptr 1 0),(4,.ptr 2 0),(7,.ptr 3 0)],hw26 o r (cellsA false (sayM (ownR r) o.peer.inner r.attrs)),4⟩) ?_ fun q=>?_
 ·conv=>whnf
  cases h5:o.peer.inner with
  | true=>
   conv=>whnf
   cases hh:r.attrs.hasPref with
   | true=>
    conv=>whnf
    exact⟨(),(Wk.i (by repeat' (first|exact LHa|exact LeL.freeV (cellsOS_free o)|exact LeL.freeV (cellsRt_free false r)|exact LeL.fr (by rw[show sayM (ownR r) true r.attrs=r.attrs by simp[sayM,hh]];simp[cellsA,hh])|exact .A|exact LeL.fr rfl|exact LHb|refine Or.inl ⟨by simp,_,rfl,?_⟩|exact Or.inr ⟨by simp,_,_,_,_,rfl⟩|refine⟨rfl,rfl,rfl,rfl,rfl,rfl,?_⟩|refine⟨?_,?_⟩)) (by omega))⟩
   | false=>
    conv=>whnf
    exact⟨(),(Wk.i (by repeat' (first|exact LHa|exact LeL.freeV (cellsOS_free o)|exact LeL.freeV (cellsRt_free false r)|exact LeL.fr (by rw[show sayM (ownR r) true r.attrs={ r.attrs with hasPref:=true,pref:=100 } by simp[sayM,hh]];rfl)|exact .A|exact LeL.fr rfl|exact LHb|refine Or.inl ⟨by simp,_,rfl,?_⟩|exact Or.inr ⟨by simp,_,_,_,_,rfl⟩|refine⟨rfl,rfl,rfl,rfl,rfl,rfl,?_⟩|refine⟨?_,?_⟩)) (by omega))⟩
  | false=>
   conv=>whnf
   cases h4:ownR r with
   | true=>
    have hmed:r.attrs.hasMed=false→r.attrs.med=0:=fun h=>by
     simp only[rightA,Bool.and_eq_true,Bool.or_eq_true,beq_iff_eq]at hq
     rcases hq.1.1.1.2 with h1|h1
     ·rw[h]at h1;cases h1
     ·exact h1
    conv=>whnf
    exact⟨(),(Wk.i (by repeat' (first|exact LHa|exact LeL.freeV (cellsOS_free o)|exact LeL.freeV (cellsRt_free false r)|exact LeL.fr (by rw[show sayM true false r.attrs={ r.attrs with hasPref:=false,pref:=0 } by(cases hm:r.attrs.hasMed<;>simp[sayM,hm,hmed])];rfl)|exact .A|exact LeL.fr rfl|exact LHb|refine Or.inl ⟨by simp,_,rfl,?_⟩|exact Or.inr ⟨by simp,_,_,_,_,rfl⟩|refine⟨rfl,rfl,rfl,rfl,rfl,rfl,?_⟩|refine⟨?_,?_⟩)) (by omega))⟩
   | false=>
    conv=>whnf
    exact⟨(),(Wk.i (by repeat' (first|exact LHa|exact LeL.freeV (cellsOS_free o)|exact LeL.freeV (cellsRt_free false r)|exact LeL.fr (by rw[show sayM false false r.attrs={ r.attrs with hasPref:=false,pref:=0,hasMed:=false,med:=0 } by simp[sayM]];rfl)|exact .A|exact LeL.fr rfl|exact LHb|refine Or.inl ⟨by simp,_,rfl,?_⟩|exact Or.inr ⟨by simp,_,_,_,_,rfl⟩|refine⟨rfl,rfl,rfl,rfl,rfl,rfl,?_⟩|refine⟨?_,?_⟩)) (by omega))⟩
 generalize byR o.pol o.self.sys r.pfx (sayM (ownR r) o.peer.inner r.attrs)=b at hby hk
 obtain⟨x,y⟩:=b
 refine vcg_ok (rd:=false) tab_ok mixed hF (fun _=>rfl) ?_
 conv=>whnf
 refine callV_pure hby ⟨.fr rfl,.fr rfl,.fr rfl,.fr rfl,trivial⟩ ?_
 conv=>whnf
 cases y with
 | false=>
  rw[hk]
  conv=>whnf
  exact Ends.pure [] (.tupL ⟨.noA,.fr rfl,trivial⟩) (by simp)
 | true=>
 conv=>whnf
 cases h5:o.peer.inner with
 | true=>
  rw[h5]at hk
  rw[hk]
  conv=>whnf
  exact Ends.pure [] (.tupL ⟨.fr rfl,.fr rfl,trivial⟩) (by simp)
 | false=>
 conv=>whnf
 refine callV_pure (ref_prepend_ok false x o.self.sys 1) ⟨.fr rfl,.fr rfl,.fr rfl,trivial⟩ ?_
 rw[h5]at hk
 by_cases hpe:prepE x o.self.sys 1=0
 ·conv=>whnf
  rw[show(prepE x o.self.sys 1 != 0)=false by simp[hpe]]
  rw[if_pos rfl,if_neg (by decide),if_pos hpe]at hk
  rw[hk]
  conv=>whnf
  exact Ends.pure [] (.tupL ⟨.eq_of rfl (encA_free false { prepA x o.self.sys 1 with next:=o.self.addr }),.fr rfl,trivial⟩) (by simp)
 ·conv=>whnf
  rw[show(prepE x o.self.sys 1 != 0)=true by simp[hpe]]
  rw[if_pos rfl,if_neg (by decide),if_neg hpe]at hk
  rw[hk]
  conv=>whnf
  exact Ends.pure [] (.tupL ⟨.noA,.fr rfl,trivial⟩) (by simp)
end
section
open Go.Proofs.Tryz (prog)
attribute [local irreducible] CallV RoundV aggK
theorem fits26_ok (fr:Bool) (u:Upd) (hs:Small u):PCon prog 41 [encU fr u] (.bool (decide (checkU u=0))):=by
 have hc:=rcheck_ok fr u hs
 refine callV_of (fn:=Go.Proofs.Tryz.f41) (body:=_) tab_ok mixed rfl rfl (by decide) (by simp[Go.Proofs.Tryz.f41]) ?_
 conv=>whnf
 refine callV_pure hc ⟨.fr rfl,trivial⟩ ?_
 conv=>whnf
 exact(Ends.pure [] (by repeat' (first|exact True.intro|exact .bool_of (by by_cases h:checkU u=0<;>simp[h])|exact .A|exact LeL.fr rfl|refine .tupL ?_|refine .aggL ?_|refine⟨?_,?_⟩)) (by simp))
theorem says26_ok (o:OutS) (r:Route):PCon prog 15 [encOS o,encRt false r] (optV false (sayO o.self o.peer o.pol r)):=by
 have hw:=words26_ok o r
 have e7:sayO o.self o.peer o.pol r=(sayK o.self o.peer o.pol r 6).bind fun a=>if checkU ⟨[],[r.pfx],a⟩=0 then some a else none:=rfl
 rw[e7]
 refine callV_of (fn:=Go.Proofs.Tryz.f15) (body:=_) tab_ok mixed rfl rfl (by decide) (by simp[Go.Proofs.Tryz.f15]) ?_
 conv=>whnf
 refine callV_pure hw ⟨.fr rfl,.fr rfl,trivial⟩ ?_
 cases hk:sayK o.self o.peer o.pol r 6 with
 | none=>
  conv=>whnf
  exact Ends.pure [] (.tupL ⟨.noA,.fr rfl,trivial⟩) (by simp)
 | some a=>
  have hf:=fits26_ok false ⟨[],[r.pfx],a⟩ ⟨by simp,by simp,sayK_few hk⟩
  conv=>whnf
  refine callV_lend [4] hf ⟨.aggL ⟨.snil_sl,.fresh_off (LeV.freezeR (by simp) rfl (by simp) (.free (rowsP_free [r.pfx]))),.fr rfl,.fr rfl,.fr rfl,.fr rfl,.fr rfl,.fr rfl,.fr rfl,.fr rfl,trivial⟩,trivial⟩ (by intro v hv;simp at hv;subst hv;exact encU_cld _) (one_none rfl) .bool ?_
  by_cases hc:checkU ⟨[],[r.pfx],a⟩=0
  ·rw[Option.bind_some,if_pos hc,decide_eq_true hc]
   conv=>whnf
   exact Ends.pure [] (.tupL ⟨.fr rfl,.fr rfl,trivial⟩) (by simp)
  ·rw[Option.bind_some,if_neg hc,decide_eq_false hc]
   conv=>whnf
   exact Ends.pure [] (.tupL ⟨.noA,.fr rfl,trivial⟩) (by simp)
theorem getE_at {l:List (Prefix × Attrs)} {p:Prefix} {i:Nat} (hi:i < l.length) (he:l[i].1=p) (hz:∀j,(h:j < l.length)→j < i→l[j].1 ≠ p):getE l p=some l[i].2:=by
 unfold getE
 rw[show l.find? (fun e=>decide (e.1=p))=some l[i]by
  rw[List.find?_eq_some_iff_getElem]
  exact⟨by simp[he],i,hi,rfl,fun j hj=>by simpa using hz j (by omega) hj⟩]
 rfl
theorem find26_ok (l:List (Prefix × Attrs)) (p:Prefix):PCon prog 138 [encEns false l,encP p] (optV false (getE l p)):=by
 refine callV_of (fn:=Go.Proofs.Tryz.f138) (body:=_) tab_ok mixed rfl rfl (by decide) (by simp[Go.Proofs.Tryz.f138]) ?_
 conv=>whnf
 refine vcg_loop tab_ok mixed (fun i:{i:Nat // i≤l.length∧∀j,(h:j < l.length)→j < i→l[j].1 ≠ p}=>⟨[(0,encEns false l),(3,.ptr 0 0),(4,.ptr 1 0),(6,cI i.1)],[(0,some (.var true 31 (cellsP p))),(1,some (.var true 35 zeroC))],2⟩) (fun i=>l.length - i.1) ⟨0,by omega,fun j _ h=>by omega⟩ (Wk.i (by repeat' (first|exact LHa|exact .free (encEns_free _ _)|exact .int_of (by simp)|exact .A|exact LeL.fr rfl|exact LHb|refine Or.inl ⟨by simp,_,rfl,?_⟩|exact Or.inr ⟨by simp,_,_,_,_,rfl⟩|refine⟨rfl,rfl,rfl,rfl,rfl,rfl,?_⟩|refine⟨?_,?_⟩)) (by omega)) (fun i=>?_)
 obtain⟨i,hi,hz⟩:=i
 conv=>whnf
 intro hgl
 have hgl:l.length≤maxLen:=by simpa[gd]using hgl
 conv=>whnf
 split
 ·rename_i hc
  have hc:i < l.length:=by simpa using hc
  conv=>whnf
  refine ixK (idxEn hc) ?_
  conv=>whnf
  refine eqlP l[i].1 p ?_
  cases he:decide (l[i].1=p)with
  | true=>
   conv=>whnf
   refine⟨by kernel_rfl,?_⟩
   conv=>whnf
   refine ixK (idxEn hc) ?_
   rw[getE_at hc (of_decide_eq_true he) hz]
   conv=>whnf
   exact Ends.pure [] (.tupL ⟨.fr rfl,.fr rfl,trivial⟩) (by simp)
  | false=>
   conv=>whnf
   refine⟨by kernel_rfl,?_⟩
   conv=>whnf
   exact⟨⟨i + 1,by omega,fun j hj hlt=>by
    rcases Nat.lt_or_ge j i with h|h
    ·exact hz j hj h
    ·obtain rfl:j=i:=by omega
     exact of_decide_eq_false he⟩,(Wk.i (by repeat' (first|exact LHa|exact .free (encEns_free _ _)|exact .int_of (wrap64_succ hc hgl)|exact .A|exact LeL.fr rfl|exact LHb|refine Or.inl ⟨by simp,_,rfl,?_⟩|exact Or.inr ⟨by simp,_,_,_,_,rfl⟩|refine⟨rfl,rfl,rfl,rfl,rfl,rfl,?_⟩|refine⟨?_,?_⟩)) (by omega)),by simp only;omega⟩
 rename_i hc
 have hc:i=l.length:=by simp at hc;omega
 subst hc
 rw[show getE l p=none by
  rw[getE_none]
  intro hm
  obtain⟨e,he,rfl⟩:=List.mem_map.1 hm
  obtain⟨j,hj,rfl⟩:=List.getElem_of_mem he
  exact hz j hj hj rfl]
 conv=>whnf
 exact Ends.pure [] (.tupL ⟨.noA,.fr rfl,trivial⟩) (by simp)
theorem okT_succ {l:List Route} {i:Nat} (h:i < l.length):okT (l.take (i + 1))=(okT (l.take i)&& (rightR l[i]&& !decide (l[i].pfx∈pfxs (l.take i)))):=by
 unfold okT
 rw[pfxs_succ h,List.take_succ_eq_append_getElem h,List.all_append]
 have e:decide (pfxs (l.take i)++ [l[i].pfx]).Nodup=(decide (pfxs (l.take i)).Nodup && !decide (l[i].pfx∈pfxs (l.take i))):=by
  rw[Bool.eq_iff_iff]
  simp only[Bool.and_eq_true,decide_eq_true_eq,Bool.not_eq_true',decide_eq_false_iff_not,List.nodup_append]
  constructor
  ·exact fun⟨h1,_,h3⟩=>⟨h1,fun hm=>h3 _ hm _ (by simp) rfl⟩
  ·exact fun⟨h1,h2⟩=>⟨h1,by simp,fun x hx y hy e=>by simp at hy;subst hy;subst e;exact h2 hx⟩
 rw[e]
 simp only[List.all_cons,List.all_nil,Bool.and_true]
 cases(l.take i).all rightR<;>cases rightR l[i]<;>simp
theorem okT_false {l:List Route} {i:Nat} (h:okT (l.take i)=false):okT l=false:=by
 cases hl:okT l with
 | false=>rfl
 | true=>
  exfalso
  obtain⟨h1,h2⟩:=okT_out hl
  have:okT (l.take i)=true:=by
   simp only[okT,Bool.and_eq_true,List.all_eq_true,decide_eq_true_eq]
   exact⟨fun r hr=>h1 r (List.mem_of_mem_take hr),by
    unfold pfxs at h2 ⊢
    rw[List.map_take]
    exact List.Sublist.nodup (List.take_sublist _ _) h2⟩
  rw[this]at h;cases h
theorem right26_ok (l:List Route):PCon prog 86 [encRts l] (.bool (okT l)):=by
 refine callV_of (fn:=Go.Proofs.Tryz.f86) (body:=_) tab_ok mixed rfl rfl (by decide) (by simp[Go.Proofs.Tryz.f86]) ?_
 conv=>whnf
 refine vcg_loop tab_ok mixed (fun i:{i:Nat // i≤l.length∧okT (l.take i)=true}=>⟨[(0,encRts l),(3,cI i.1)],[],0⟩) (fun i=>l.length - i.1) ⟨0,by omega,by simp[okT,pfxs]⟩ (Wk.i (by repeat' (first|exact LHa|exact .int_of (by simp)|exact .A|exact LeL.fr rfl|exact LHb|refine Or.inl ⟨by simp,_,rfl,?_⟩|exact Or.inr ⟨by simp,_,_,_,_,rfl⟩|refine⟨rfl,rfl,rfl,rfl,rfl,rfl,?_⟩|refine⟨?_,?_⟩)) (by omega)) (fun i=>?_)
 obtain⟨i,hi,hz⟩:=i
 conv=>whnf
 intro hgl
 have hgl:l.length≤maxLen:=by simpa[gd]using hgl
 conv=>whnf
 split
 ·rename_i hc
  have hc:i < l.length:=by simpa using hc
  conv=>whnf
  refine ixK (idxRt hc) ?_
  conv=>whnf
  refine callV_pure (rRight_ok l[i].pfx) ⟨.fr rfl,trivial⟩ ?_
  cases hp:prefOk l[i].pfx with
  | false=>
   conv=>whnf
   exact(Ends.pure [] (by repeat' (first|exact True.intro|exact .bool_of (okT_false (i:=i + 1) (by rw[okT_succ hc,show rightR l[i]=false by simp[rightR,hp]];simp[hz])).symm|exact .A|exact LeL.fr rfl|refine .tupL ?_|refine .aggL ?_|refine⟨?_,?_⟩)) (by simp))
  | true=>
  conv=>whnf
  refine ixK (idxRt hc) ?_
  conv=>whnf
  refine callV_pure (right_ok false l[i].attrs) ⟨.fr rfl,trivial⟩ ?_
  cases hq:rightA l[i].attrs with
  | false=>
   conv=>whnf
   exact(Ends.pure [] (by repeat' (first|exact True.intro|exact .bool_of (okT_false (i:=i + 1) (by rw[okT_succ hc,show rightR l[i]=false by simp[rightR,hq]];simp[hz])).symm|exact .A|exact LeL.fr rfl|refine .tupL ?_|refine .aggL ?_|refine⟨?_,?_⟩)) (by simp))
  | true=>
  conv=>whnf
  refine vcg_loop tab_ok mixed (fun k:{k:Nat // k≤i∧∀j,(h:j < l.length)→j < k→l[j].pfx ≠ l[i].pfx}=>⟨[(0,encRts l),(3,cI i),(4,cI k.1)],[],0⟩) (fun k=>i - k.1) ⟨0,by omega,fun j _ h=>by omega⟩ (Wk.i (by repeat' (first|exact LHa|exact .int_of (by simp)|exact .A|exact LeL.fr rfl|exact LHb|refine Or.inl ⟨by simp,_,rfl,?_⟩|exact Or.inr ⟨by simp,_,_,_,_,rfl⟩|refine⟨rfl,rfl,rfl,rfl,rfl,rfl,?_⟩|refine⟨?_,?_⟩)) (by omega)) (fun k=>?_)
  obtain⟨k,hk,hzk⟩:=k
  conv=>whnf
  split
  ·rename_i hck
   have hck:k < i:=by simpa using hck
   have hkl:k < l.length:=by omega
   conv=>whnf
   refine ixK (idxRt hkl) ?_
   conv=>whnf
   refine ixK (idxRt hc) ?_
   conv=>whnf
   refine eqlP l[k].pfx l[i].pfx ?_
   cases he:decide (l[k].pfx=l[i].pfx)with
   | true=>
    have hm:l[i].pfx∈pfxs (l.take i):=by
     rw[← of_decide_eq_true he]
     exact List.mem_map.2 ⟨l[k],by rw[List.mem_take_iff_getElem];exact⟨k,by omega,rfl⟩,rfl⟩
    conv=>whnf
    refine⟨by kernel_rfl,?_⟩
    conv=>whnf
    exact(Ends.pure [] (by repeat' (first|exact True.intro|exact .bool_of (okT_false (i:=i + 1) (by rw[okT_succ hc,hz];simp[hm])).symm|exact .A|exact LeL.fr rfl|refine .tupL ?_|refine .aggL ?_|refine⟨?_,?_⟩)) (by simp))
   | false=>
    conv=>whnf
    refine⟨by kernel_rfl,?_⟩
    conv=>whnf
    exact⟨⟨k + 1,by omega,fun j hj hlt=>by
     rcases Nat.lt_or_ge j k with h|h
     ·exact hzk j hj h
     ·obtain rfl:j=k:=by omega
      exact of_decide_eq_false he⟩,(Wk.i (by repeat' (first|exact LHa|exact .int_of (wrap64_succ hkl hgl)|exact .A|exact LeL.fr rfl|exact LHb|refine Or.inl ⟨by simp,_,rfl,?_⟩|exact Or.inr ⟨by simp,_,_,_,_,rfl⟩|refine⟨rfl,rfl,rfl,rfl,rfl,rfl,?_⟩|refine⟨?_,?_⟩)) (by omega)),by simp only;omega⟩
  rename_i hck
  have hck:k=i:=by simp at hck;omega
  subst hck
  have hnm:l[k].pfx ∉ pfxs (l.take k):=by
   intro hm
   obtain⟨r,hr,he⟩:=List.mem_map.1 hm
   obtain⟨j,hj,rfl⟩:=List.getElem_of_mem hr
   have hj2:j < k:=by simp at hj;omega
   rw[List.getElem_take]at he
   exact hzk j (by omega) hj2 he
  conv=>whnf
  exact⟨⟨k + 1,by omega,by rw[okT_succ hc,hz,show rightR l[k]=true by simp[rightR,hp,hq]];simp[hnm]⟩,(Wk.i (by repeat' (first|exact LHa|exact .int_of (wrap64_succ hc hgl)|exact .A|exact LeL.fr rfl|exact LHb|refine Or.inl ⟨by simp,_,rfl,?_⟩|exact Or.inr ⟨by simp,_,_,_,_,rfl⟩|refine⟨rfl,rfl,rfl,rfl,rfl,rfl,?_⟩|refine⟨?_,?_⟩)) (by omega)),by simp only;omega⟩
 rename_i hc
 have hc:i=l.length:=by simp at hc;omega
 subst hc
 rw[List.take_length]at hz
 conv=>whnf
 exact(Ends.pure [] (by repeat' (first|exact True.intro|exact .bool_of hz.symm|exact .A|exact LeL.fr rfl|refine .tupL ?_|refine .aggL ?_|refine⟨?_,?_⟩)) (by simp))
theorem idxUe {fr:Bool} {l:List Upd} {i:Nat} (h:i < l.length):(l.map (cellsU fr))[(i:Int).toNat]? = some (cellsU fr l[i]):=by simp[h]
theorem sameU_refl (u:Upd):sameU u u=true:=by simp[sameU,sameA_refl]
theorem sameUs_ok (fr fr':Bool) (l:List Upd):PCon prog 44 [encUt fr l,encUt fr' l] (.bool true):=by
 refine callV_of (fn:=Go.Proofs.Tryz.f44) (body:=_) tab_ok mixed rfl rfl (by decide) (by simp[Go.Proofs.Tryz.f44]) ?_
 conv=>whnf
 intro _
 conv=>whnf
 intro _
 conv=>whnf
 split
 case' h_1 hh=>exfalso;simp at hh
 conv=>whnf
 refine vcg_loop tab_ok mixed (fun i:{i:Nat // i≤l.length}=>⟨[(0,encUt fr l),(1,encUt fr' l),(5,cI i.1)],[],0⟩) (fun i=>l.length - i.1) ⟨0,by omega⟩ (Wk.i (by repeat' (first|exact LHa|exact .int_of (by simp)|exact .A|exact LeL.fr rfl|exact LHb|refine Or.inl ⟨by simp,_,rfl,?_⟩|exact Or.inr ⟨by simp,_,_,_,_,rfl⟩|refine⟨rfl,rfl,rfl,rfl,rfl,rfl,?_⟩|refine⟨?_,?_⟩)) (by omega)) (fun i=>?_)
 obtain⟨i,hi⟩:=i
 conv=>whnf
 intro hgl
 have hgl:l.length≤maxLen:=by simpa[gd]using hgl
 conv=>whnf
 split
 ·rename_i hc
  have hc:i < l.length:=by simpa using hc
  have sm:=refSameU_ok fr fr' l[i] l[i]
  rw[sameU_refl]at sm
  conv=>whnf
  refine ixK (idxUe hc) ?_
  conv=>whnf
  refine ixK (idxUe hc) ?_
  conv=>whnf
  refine⟨_,[],fun h nx _=>pureV_pure sm ⟨.fr rfl,.fr rfl,trivial⟩,by simp,?_⟩
  conv=>whnf
  refine⟨by kernel_rfl,?_⟩
  conv=>whnf
  exact⟨⟨i + 1,by omega⟩,(Wk.i (by repeat' (first|exact LHa|exact .int_of (wrap64_succ hc hgl)|exact .A|exact LeL.fr rfl|exact LHb|refine Or.inl ⟨by simp,_,rfl,?_⟩|exact Or.inr ⟨by simp,_,_,_,_,rfl⟩|refine⟨rfl,rfl,rfl,rfl,rfl,rfl,?_⟩|refine⟨?_,?_⟩)) (by omega)),by simp only;omega⟩
 rename_i hc
 have hc:i=l.length:=by simp at hc;omega
 subst hc
 conv=>whnf
 exact(Ends.pA)
def sameOS (a b:OutS):Bool:=decide (a.self=b.self)&& decide (a.peer=b.peer)&& sameP a.pol b.pol && decide (a.told=b.told)
theorem sameOS_4 {a b:OutS} (h:a.told ≠ b.told):sameOS a b=false:=by simp[sameOS,h]
theorem rsame26_ok (a b:OutS):PCon prog 26 [encOS a,encOS b] (.bool (sameOS a b)):=by
 have hp:=rsame_ok false false a.pol b.pol
 refine callV_of (fn:=Go.Proofs.Tryz.f26) (body:=_) tab_ok mixed rfl rfl (by decide) (by simp[Go.Proofs.Tryz.f26]) ?_
 conv=>whnf
 refine neqSf a.self b.self ?_
 cases h1:decide (a.self=b.self)with
 | false=>
  conv=>whnf
  exact(Ends.pure [] (by repeat' (first|exact True.intro|exact .bool_of (by simp[sameOS,h1])|exact .A|exact LeL.fr rfl|refine .tupL ?_|refine .aggL ?_|refine⟨?_,?_⟩)) (by simp))
 | true=>
 conv=>whnf
 refine neqPe a.peer b.peer ?_
 cases h2:decide (a.peer=b.peer)with
 | false=>
  conv=>whnf
  exact(Ends.pure [] (by repeat' (first|exact True.intro|exact .bool_of (by simp[sameOS,h2])|exact .A|exact LeL.fr rfl|refine .tupL ?_|refine .aggL ?_|refine⟨?_,?_⟩)) (by simp))
 | true=>
 conv=>whnf
 refine callV_pure hp ⟨.fr rfl,.fr rfl,trivial⟩ ?_
 cases h3:sameP a.pol b.pol with
 | false=>
  conv=>whnf
  exact(Ends.pure [] (by repeat' (first|exact True.intro|exact .bool_of (by simp[sameOS,h3])|exact .A|exact LeL.fr rfl|refine .tupL ?_|refine .aggL ?_|refine⟨?_,?_⟩)) (by simp))
 | true=>
 conv=>whnf
 intro _
 conv=>whnf
 intro _
 conv=>whnf
 split
 ·rename_i hh
  conv=>whnf
  exact(Ends.pure [] (by repeat' (first|exact True.intro|exact .bool_of (sameOS_4 (fun e=>by simp[e]at hh)).symm|exact .A|exact LeL.fr rfl|refine .tupL ?_|refine .aggL ?_|refine⟨?_,?_⟩)) (by simp))
 rename_i hh
 have hlen:a.told.length=b.told.length:=by simp at hh;omega
 conv=>whnf
 refine vcg_loop tab_ok mixed (fun i:{i:Nat // i≤a.told.length∧a.told.take i=b.told.take i}=>⟨[(2,.ptr 0 0),(3,.ptr 1 0),(5,cI i.1)],[(0,some (.var true 47 (cellsOS a))),(1,some (.var true 47 (cellsOS b)))],2⟩) (fun i=>a.told.length - i.1) ⟨0,by omega,rfl⟩ (Wk.i (by repeat' (first|exact LHa|exact LeL.freeV (cellsOS_free _)|exact .int_of (by simp)|exact .A|exact LeL.fr rfl|exact LHb|refine Or.inl ⟨by simp,_,rfl,?_⟩|exact Or.inr ⟨by simp,_,_,_,_,rfl⟩|refine⟨rfl,rfl,rfl,rfl,rfl,rfl,?_⟩|refine⟨?_,?_⟩)) (by omega)) (fun i=>?_)
 obtain⟨i,hi,hz⟩:=i
 conv=>whnf
 intro hgl
 have hgl:a.told.length≤maxLen:=by simpa[gd]using hgl
 conv=>whnf
 split
 ·rename_i hc
  have hc:i < a.told.length:=by simpa using hc
  have hcb:i < b.told.length:=by omega
  have sm:=ref_same_ok false false a.told[i].2 b.told[i].2
  conv=>whnf
  refine ixK (idxEn hc) ?_
  conv=>whnf
  refine ixK (idxEn hcb) ?_
  conv=>whnf
  refine neqP a.told[i].1 b.told[i].1 ?_
  cases h4:decide (a.told[i].1=b.told[i].1)with
  | false=>
   conv=>whnf
   refine⟨by kernel_rfl,?_⟩
   conv=>whnf
   exact(Ends.pure [] (by repeat' (first|exact True.intro|exact .bool_of (sameOS_4 (said_ne hc hcb (fun e=>of_decide_eq_false h4 (congrArg Prod.fst e)))).symm|exact .A|exact LeL.fr rfl|refine .tupL ?_|refine .aggL ?_|refine⟨?_,?_⟩)) (by simp))
  | true=>
   conv=>whnf
   refine ixK (idxEn hc) ?_
   conv=>whnf
   refine ixK (idxEn hcb) ?_
   conv=>whnf
   refine⟨_,[],fun h nx _=>pureV_pure sm ⟨.fr rfl,.fr rfl,trivial⟩,by simp,?_⟩
   cases h5:sameA a.told[i].2 b.told[i].2 with
   | false=>
    conv=>whnf
    refine⟨by kernel_rfl,?_⟩
    conv=>whnf
    exact(Ends.pure [] (by repeat' (first|exact True.intro|exact .bool_of (sameOS_4 (said_ne hc hcb (fun e=>of_decide_eq_false h5 (congrArg Prod.snd e)))).symm|exact .A|exact LeL.fr rfl|refine .tupL ?_|refine .aggL ?_|refine⟨?_,?_⟩)) (by simp))
   | true=>
    conv=>whnf
    refine⟨by kernel_rfl,?_⟩
    conv=>whnf
    exact⟨⟨i + 1,by omega,by rw[List.take_succ_eq_append_getElem hc,List.take_succ_eq_append_getElem hcb,hz,Prod.ext (of_decide_eq_true h4) (of_decide_eq_true h5)]⟩,(Wk.i (by repeat' (first|exact LHa|exact LeL.freeV (cellsOS_free _)|exact .int_of (wrap64_succ hc hgl)|exact .A|exact LeL.fr rfl|exact LHb|refine Or.inl ⟨by simp,_,rfl,?_⟩|exact Or.inr ⟨by simp,_,_,_,_,rfl⟩|refine⟨rfl,rfl,rfl,rfl,rfl,rfl,?_⟩|refine⟨?_,?_⟩)) (by omega)),by simp only;omega⟩
 rename_i hc
 have hc:i=a.told.length:=by simp at hc;omega
 subst hc
 have he:a.told=b.told:=by
  rw[List.take_length,List.take_of_length_le (by omega)]at hz
  exact hz
 conv=>whnf
 exact(Ends.pure [] (by repeat' (first|exact True.intro|exact .bool_of (by simp[sameOS,of_decide_eq_true h1,of_decide_eq_true h2,h3,he])|exact .A|exact LeL.fr rfl|refine .tupL ?_|refine .aggL ?_|refine⟨?_,?_⟩)) (by simp))
end
section
open Go.Proofs.Tryz (prog)
abbrev rowsUf (l:List Upd):List (List V):=l.map (cellsU false)
abbrev arrF (us:List Upd):Option Blk:=some (.arr true false 86 10 (rowsUf us))
theorem rowsUf_free (l:List Upd):∀x∈rowsUf l,∀v∈x,Free v:=by
 intro x hx v hv
 obtain⟨u,_,rfl⟩:=List.mem_map.1 hx
 exact cellsU_free false u v hv
instance {l:List Upd}:FreeRI (l.map (cellsU false)):=⟨⟨rowsUf_free l⟩⟩
theorem idxUf {l:List Upd} {k:Nat} (h:k < l.length):(rowsUf l)[k]? = some (cellsU false l[k]):=by simp[h]
instance {fr l}:FreeI (encEns fr l):=⟨⟨encEns_free fr l⟩⟩
def bothU (G:List (List Prefix)) (C:List (List Prefix × Attrs)):List Upd:=goneU G ++ newU C
theorem both_len (G:List (List Prefix)) (C:List (List Prefix × Attrs)):(bothU G C).length=G.length + C.length:=by simp[bothU,gone_len,new_len]
theorem both_at (G:List (List Prefix)) (C:List (List Prefix × Attrs)) {k:Nat} (h:k < C.length) (h':G.length + k < (bothU G C).length):(bothU G C)[G.length + k]=⟨[],C[k].1,C[k].2⟩:=by
 simp[bothU,goneU,newU,List.getElem_append_right]
theorem both_set (G:List (List Prefix)) (C:List (List Prefix × Attrs)) (k:Nat) (x:List Prefix × Attrs):(bothU G C).set (G.length + k) ⟨[],x.1,x.2⟩=bothU G (C.set k x):=by
 simp only[bothU]
 rw[List.set_append_right _ _ (by rw[gone_len];omega),gone_len,Nat.add_sub_cancel_left]
 congr 1
 simp[newU,List.map_set]
theorem both_snoc (G:List (List Prefix)) (C:List (List Prefix × Attrs)) (x:List Prefix × Attrs):bothU G (C ++ [x])=bothU G C ++ [⟨[],x.1,x.2⟩]:=by simp[bothU,newU]
theorem gone_at (G:List (List Prefix)) {k:Nat} (h:k < G.length) (h':k < (goneU G).length):(goneU G)[k]=⟨G[k],[],noA⟩:=by simp[goneU]
theorem goS_hit {out:List (List Prefix)} {p:Prefix} (h:0 < out.length) (hc:checkU ⟨out[out.length - 1]++ [p],[],noA⟩=0):goS out p=out.set (out.length - 1) (out[out.length - 1]++ [p]):=by
 have e:out.getD (out.length - 1) []=out[out.length - 1]:=by rw[List.getD_eq_getElem?_getD,List.getElem?_eq_getElem (by omega)];rfl
 rw[goS,e,if_pos ⟨h,hc⟩]
theorem goS_no {out:List (List Prefix)} {p:Prefix} (hc:∀h:0 < out.length,checkU ⟨out[out.length - 1]++ [p],[],noA⟩ ≠ 0):goS out p=out ++ [[p]]:=by
 rw[goS,if_neg]
 rintro ⟨h,h2⟩
 have e:out.getD (out.length - 1) []=out[out.length - 1]:=by rw[List.getD_eq_getElem?_getD,List.getElem?_eq_getElem (by omega)];rfl
 rw[e]at h2
 exact hc h h2
theorem comS_set {out:List (List Prefix × Attrs)} {e:Prefix × Attrs} {k:Nat} (h:k < out.length) (hn:NoF out e k) (hs:out[k].2=e.2) (hf:checkU ⟨[],out[k].1 ++ [e.1],e.2⟩=0):comS out e=out.set k (out[k].1 ++ [e.1],e.2):=by
 have hi:out.findIdx (comF e.1 e.2)=k:=by
  rw[List.findIdx_eq h]
  exact⟨by simp[comF,hs,hf],fun j hj=>hn j (by omega) hj⟩
 rw[comS,hi,if_pos h,show out.getD k noX=out[k]by simp[h]]
theorem goK_succ {was now:List (Prefix × Attrs)} {i:Nat} (h:i < was.length):goKs ((keysE was).take (i + 1)) now=if was[i].1∈keysE now then goKs ((keysE was).take i) now else goKs ((keysE was).take i) now ++ [was[i].1]:=by
 have hk:i < (keysE was).length:=by rw[keysE_len];exact h
 rw[goKs_succ hk,show(keysE was)[i]=was[i].1 by simp[keysE]]
theorem comK_succ {was now:List (Prefix × Attrs)} {i:Nat} (h:i < now.length):comK was (now.take (i + 1))=if getE was now[i].1=some now[i].2 then comK was (now.take i)else comK was (now.take i)++ [now[i]]:=by
 unfold comK
 rw[List.take_succ_eq_append_getElem h,List.filter_append]
 by_cases hm:getE was now[i].1=some now[i].2<;>simp[hm]
theorem twoApp (l:List Prefix) (p:Prefix):List.take (0 + (rowsP l).length + (List.take 1 (List.drop 0 [[cW p.addr,cB p.len]])).length) (List.drop 0 (List.take (0 + (rowsP l).length) (List.take 0 ([]:List (List V))++ rowsP l)++ List.take 1 (List.drop 0 [[cW p.addr,cB p.len]])))=rowsP (l ++ [p]):=by
 have e:List.take (0 + (rowsP l).length) (List.take 0 ([]:List (List V))++ rowsP l)=rowsP l:=List.take_of_length_le (by simp)
 show List.take (0 + (rowsP l).length + 1) (List.take (0 + (rowsP l).length) (List.take 0 ([]:List (List V))++ rowsP l)++ [cellsP p])=rowsP (l ++ [p])
 rw[e,List.take_of_length_le (by simp)]
 simp[rowsP]
def appRows (l:List Prefix) (p:Prefix):List (List V):=List.take (0 + (rowsP l).length) (List.take 0 ([]:List (List V))++ rowsP l)++ List.take 1 (List.drop 0 [[cW p.addr,cB p.len]])
attribute [local irreducible] CallV RoundV aggK
theorem wrap64_succ' {n:Nat} (h:n≤100000):IntKind.i64.wrap ((n:Int)+ 1)=((n + 1:Nat):Int):=by
 rw[wrap64 (by omega) (by omega)]
 omega
theorem updates26_ok (was now:List (Prefix × Attrs)) (hw:was.length≤1000) (hn:now.length≤1000) (hr:∀e∈now,rightA e.2=true) :
  PCon prog 88 [encEns false was,encEns false now] (encUt false (updO was now)):=by
 refine callV_of (fn:=Go.Proofs.Tryz.f88) (body:=_) tab_ok mixed rfl rfl (by decide) (by simp[Go.Proofs.Tryz.f88]) ?_
 conv=>whnf
 refine vcg_loop tab_ok mixed (fun i:{i:Nat // i≤was.length}=>⟨[(0,encEns false was),(1,encEns false now),(5,.osl 0 10 0 (goneU (goU (goKs ((keysE was).take i.1) now))).length),(6,cI i.1)],[(0,arrF (goneU (goU (goKs ((keysE was).take i.1) now))))],1⟩) (fun i=>was.length - i.1) ⟨0,by omega⟩ (Wk.i (by repeat' (first|exact LHa|exact .free (encEns_free _ _)|exact .int_of (by simp)|exact .A|exact LeL.fr rfl|exact LHb|refine Or.inl ⟨by simp,_,rfl,?_⟩|exact Or.inr ⟨by simp,_,_,_,_,rfl⟩|refine⟨rfl,rfl,rfl,rfl,rfl,rfl,?_⟩|refine⟨?_,?_⟩)) (by omega)) (fun i=>?_)
 obtain⟨i,hi⟩:=i
 conv=>whnf
 intro hgl
 have hgl:was.length≤maxLen:=by simpa[gd]using hgl
 conv=>whnf
 split
 ·rename_i hc
  have hc:i < was.length:=by simpa using hc
  have hI:=goU_I (goKs ((keysE was).take i) now)
  have hL:(goKs ((keysE was).take i) now).length≤1000:=Nat.le_trans (List.length_filter_le _ _) (by rw[List.length_take];omega)
  have hI:GoI 1000 (goU (goKs ((keysE was).take i) now)):=hI.more hL
  have hs:=goK_succ (now:=now) hc
  have hfi:=find26_ok now was[i].1
  conv=>whnf
  refine ixK (idxEn hc) ?_
  conv=>whnf
  refine callV_pure hfi ⟨.free (encEns_free _ _),.fr rfl,trivial⟩ ?_
  cases hg:getE now was[i].1 with
  | some a=>
   rw[if_pos (getE_key hg)]at hs
   conv=>whnf
   exact⟨⟨i + 1,by omega⟩,(Wk.i (by repeat' (first|exact LHa|exact .free (encEns_free _ _)|exact .int_of (wrap64_succ hc hgl)|exact .osl_of rfl (by omega) (by simp only[hs])|exact LeB.fr (by simp only[hs]) id id|exact .A|exact LeL.fr rfl|exact LHb|refine Or.inl ⟨by simp,_,rfl,?_⟩|exact Or.inr ⟨by simp,_,_,_,_,rfl⟩|refine⟨rfl,rfl,rfl,rfl,rfl,rfl,?_⟩|refine⟨?_,?_⟩)) (by omega)),by simp only;omega⟩
  | none=>
   rw[if_neg (getE_none.1 hg)]at hs
   have hs2:goU (goKs ((keysE was).take (i + 1)) now)=goS (goU (goKs ((keysE was).take i) now)) was[i].1:=by rw[hs,goU_snoc]
   generalize goU (goKs ((keysE was).take i) now)=out at *
   conv=>whnf
   intro hgo
   conv=>whnf
   split
   ·rename_i hz
    have hz:0 < out.length:=by
     rw[gone_len]at hz
     rcases Nat.eq_zero_or_pos out.length with h|h
     ·rw[h]at hz;exact absurd hz (by decide)
     ·exact h
    have hw1:IntKind.i64.wrap (((goneU out).length:Int) - 1)=((out.length - 1:Nat):Int):=by rw[gone_len,wrap64 (by omega) (by have:=hI.len;omega)];omega
    have hlk:out.length - 1 < (goneU out).length:=by rw[gone_len];omega
    have hlast:(goneU out)[out.length - 1]=⟨out[out.length - 1],[],noA⟩:=gone_at out (by omega) hlk
    have hfew:=hI.few _ (List.getElem_mem (by omega:out.length - 1 < out.length))
    have hix:(rowsUf (goneU out))[out.length - 1]? = some (cellsU false ⟨out[out.length - 1],[],noA⟩):=by rw[idxUf hlk,hlast]
    have hf:=fits26_ok false ⟨out[out.length - 1]++ [was[i].1],[],noA⟩ ⟨by simp;omega,by simp,noA_few.2⟩
    conv=>whnf
    rw[hw1]
    refine⟨rfl,⟨by omega,by rw[gone_len];omega⟩,?_⟩
    conv=>whnf
    rw[show 0 + ((out.length - 1:Nat):Int).toNat=out.length - 1 by simp]
    refine⟨rfl,_,hix,?_⟩
    conv=>whnf
    refine⟨⟨rfl,rfl,rfl,rfl,by decide⟩,by simp,⟨by simp[tab,tabOf,nth];omega,by simp;omega⟩,?_⟩
    conv=>whnf
    refine⟨rfl,by simp,?_⟩
    conv=>whnf
    refine⟨⟨rfl,rfl,rfl,rfl,by decide⟩,by simp,⟨by simp[tab,tabOf,nth];omega,by simp;omega⟩,?_⟩
    conv=>whnf
    refine⟨by kernel_rfl,?_⟩
    conv=>whnf
    refine callV_lend [6] hf ⟨.aggL ⟨.fresh_off (.freezeE (by simp) rfl (by simp) (twoApp _ _) (rowsP_free _)),.snil_sl,.fr rfl,.snil_sl,.fr rfl,.fr rfl,.fr rfl,.fr rfl,.fr rfl,.snil_sl,trivial⟩,trivial⟩ (by intro v hv;simp at hv;subst hv;exact encU_cld _) (one_none rfl) .bool ?_
    by_cases hck:checkU ⟨out[out.length - 1]++ [was[i].1],[],noA⟩=0
    ·have hn1:=goS_hit hz hck
     rw[decide_eq_true hck]
     conv=>whnf
     refine⟨rfl,⟨by omega,by rw[gone_len];omega⟩,?_⟩
     conv=>whnf
     rw[show 0 + ((out.length - 1:Nat):Int).toNat=out.length - 1 by simp]
     refine⟨rfl,_,hix,?_⟩
     conv=>whnf
     exact⟨⟨i + 1,by omega⟩,(Wk.all id [6] (by repeat' (first|exact LHa|exact .int_of (wrap64_succ hc hgl)|exact .free (encEns_free _ _)|exact .osl_of rfl (by omega) (by simp only[hs2,hn1];simp[goneU])|exact Or.inl ⟨by decide,_,rfl,id,id,rfl,rfl,LeR.out (LeR.of_eq' (LeR.set (LeR.free (rowsUf_free (goneU out))) (y:=cellsU false ⟨out[out.length - 1]++ [was[i].1],[],noA⟩) ⟨.fresh_off (.freezeE (by simp) rfl (by simp) (twoApp _ _) (rowsP_free _)),.snil_sl,.fr rfl,.snil_sl,.fr rfl,.fr rfl,.fr rfl,.fr rfl,.fr rfl,.snil_sl,trivial⟩) (by simp only[hs2,hn1];simp[goneU]))⟩|exact .A|exact LeL.fr rfl|exact LHb|refine Or.inl ⟨by simp,_,rfl,?_⟩|exact Or.inr ⟨by simp,_,_,_,_,rfl⟩|refine⟨rfl,rfl,rfl,rfl,rfl,rfl,?_⟩|refine⟨?_,?_⟩)) (fun _ _ _ _ h=>h) (fun _ _=>rfl) (by omega) (by intro z hz;simp only[List.mem_cons,List.not_mem_nil,or_false]at hz;rcases hz with rfl<;>exact ne_none_of rfl)),by simp only;omega⟩
    ·have hn1:=goS_no (fun _=>hck)
     rw[decide_eq_false hck]
     conv=>whnf
     refine⟨rfl,by simp,?_⟩
     conv=>whnf
     refine⟨⟨rfl,rfl,rfl,rfl,by decide⟩,by simp,⟨by simp[tab,tabOf,nth,gone_len];have:=hI.len;omega,by simp[gone_len];have:=hI.len;omega⟩,?_⟩
     conv=>whnf
     exact⟨⟨i + 1,by omega⟩,(Wk.all (renOf [(0,10)]) [8] (by repeat' (first|exact LHa|exact .int_of (wrap64_succ hc hgl)|exact .osl_of rfl (by omega) (by simp only[hs2,hn1];simp[goneU])|exact Or.inl ⟨by decide,_,rfl,id,id,rfl,rfl,LeR.out (LeR.of_eq' (LeR.app (LeR.of_eq (List.take_of_length_le (by simp)) (.free (rowsUf_free (goneU out)))) (ys':=rowsUf [⟨[was[i].1],[],noA⟩]) ⟨⟨.fresh_off (.freezeE (by simp) rfl (by simp) rfl (rowsP_free _)),.snil_sl,.fr rfl,.snil_sl,.fr rfl,.fr rfl,.fr rfl,.fr rfl,.fr rfl,.snil_sl,trivial⟩,trivial⟩) (by simp only[hs2,hn1];simp[goneU]))⟩|exact .A|exact LeL.fr rfl|exact LHb|refine Or.inl ⟨by simp,_,rfl,?_⟩|exact Or.inr ⟨by simp,_,_,_,_,rfl⟩|refine⟨rfl,rfl,rfl,rfl,rfl,rfl,?_⟩|refine⟨?_,?_⟩)) (show ∀b∈([0]:List Nat),∀b'∈([0]:List Nat),(renOf [(0,10)]) b=(renOf [(0,10)]) b'→b=b' by decide) (fun _ h=>by omega) (by omega) (by intro z hz;simp only[List.mem_cons,List.not_mem_nil,or_false]at hz;rcases hz with rfl<;>exact ne_none_of rfl)),by simp only;omega⟩
   ·rename_i hz
    have hz:out.length=0:=by
     rw[gone_len]at hz
     rcases Nat.eq_zero_or_pos out.length with h|h
     ·exact h
     ·rw[wrap64 (by omega) (by have:=hI.len;omega)]at hz
      simp at hz
      omega
    have hn1:goS out was[i].1=out ++ [[was[i].1]]:=goS_no (fun h=>by omega)
    conv=>whnf
    refine⟨rfl,by simp,?_⟩
    conv=>whnf
    refine⟨⟨rfl,rfl,rfl,rfl,by decide⟩,by simp,⟨by simp[tab,tabOf,nth,gone_len];have:=hI.len;omega,by simp[gone_len];have:=hI.len;omega⟩,?_⟩
    conv=>whnf
    exact⟨⟨i + 1,by omega⟩,(Wk.all (renOf [(0,5)]) [3] (by repeat' (first|exact LHa|exact .int_of (wrap64_succ hc hgl)|exact .osl_of rfl (by omega) (by simp only[hs2,hn1];simp[goneU])|exact Or.inl ⟨by decide,_,rfl,id,id,rfl,rfl,LeR.out (LeR.of_eq' (LeR.app (LeR.of_eq (List.take_of_length_le (by simp)) (.free (rowsUf_free (goneU out)))) (ys':=rowsUf [⟨[was[i].1],[],noA⟩]) ⟨⟨.fresh_off (.freezeE (by simp) rfl (by simp) rfl (rowsP_free _)),.snil_sl,.fr rfl,.snil_sl,.fr rfl,.fr rfl,.fr rfl,.fr rfl,.fr rfl,.snil_sl,trivial⟩,trivial⟩) (by simp only[hs2,hn1];simp[goneU]))⟩|exact .A|exact LeL.fr rfl|exact LHb|refine Or.inl ⟨by simp,_,rfl,?_⟩|exact Or.inr ⟨by simp,_,_,_,_,rfl⟩|refine⟨rfl,rfl,rfl,rfl,rfl,rfl,?_⟩|refine⟨?_,?_⟩)) (show ∀b∈([0]:List Nat),∀b'∈([0]:List Nat),(renOf [(0,5)]) b=(renOf [(0,5)]) b'→b=b' by decide) (fun _ h=>by omega) (by omega) (by intro z hz;simp only[List.mem_cons,List.not_mem_nil,or_false]at hz;rcases hz with rfl<;>exact ne_none_of rfl)),by simp only;omega⟩
 rename_i hc
 have hc:i=was.length:=by simp at hc;omega
 subst hc
 rw[show(keysE was).take was.length=keysE was by rw[← keysE_len was,List.take_length]]
 have hGI:=goU_I (goKs (keysE was) now)
 have hGl:(goU (goKs (keysE was) now)).length≤1000:=Nat.le_trans hGI.len (Nat.le_trans (List.length_filter_le _ _) (by rw[keysE_len];exact hw))
 have hup:updO was now=bothU (goU (goKs (keysE was) now)) (comU (comK was now)):=rfl
 rw[hup]
 generalize goU (goKs (keysE was) now)=G at hGl ⊢
 conv=>whnf
 intro _
 conv=>whnf
 refine vcg_loop tab_ok mixed (fun i:{i:Nat // i≤now.length}=>⟨[(0,encEns false was),(1,encEns false now),(5,.osl 0 10 0 (bothU G (comU (comK was (now.take i.1)))).length),(12,cI G.length),(13,cI i.1)],[(0,arrF (bothU G (comU (comK was (now.take i.1)))))],1⟩) (fun i=>now.length - i.1) ⟨0,by omega⟩ (Wk.i (by repeat' (first|exact LHa|exact .osl_of rfl (by omega) (by simp[bothU,comU,comK,newU])|exact .int_of (by rw[gone_len])|exact .int_of (by simp)|exact LeB.fr (by simp[bothU,comU,comK,newU]) id id|exact .A|exact LeL.fr rfl|exact LHb|refine Or.inl ⟨by simp,_,rfl,?_⟩|exact Or.inr ⟨by simp,_,_,_,_,rfl⟩|refine⟨rfl,rfl,rfl,rfl,rfl,rfl,?_⟩|refine⟨?_,?_⟩)) (by omega)) (fun i=>?_)
 obtain⟨i,hi⟩:=i
 conv=>whnf
 intro hgl
 have hgl:now.length≤maxLen:=by simpa[gd]using hgl
 conv=>whnf
 split
 ·rename_i hc
  have hc:i < now.length:=by simpa using hc
  have hcr:∀e∈comK was (now.take i),rightA e.2=true:=fun e he=>hr e (List.mem_of_mem_take (List.mem_filter.1 he).1)
  have hL:(comK was (now.take i)).length≤1000:=Nat.le_trans (List.length_filter_le _ _) (by rw[List.length_take];omega)
  have hI:ComI 1000 (comU (comK was (now.take i))):=(comU_I hcr).more hL
  have hs:=comK_succ (was:=was) hc
  have hra:=right_sf (hr _ (List.getElem_mem hc))
  have hfi:=find26_ok was now[i].1
  have hcu:=comU_snoc (comK was (now.take i)) now[i]
  clear hcr hL
  generalize hout:comU (comK was (now.take i))=out at *
  conv=>whnf
  refine ixK (idxEn hc) ?_
  conv=>whnf
  refine ixK (idxEn hc) ?_
  conv=>whnf
  refine⟨by kernel_rfl,?_⟩
  conv=>whnf
  refine callV_pure hfi ⟨.fr rfl,.fr rfl,trivial⟩ ?_
  cases hgw:getE was now[i].1 with
  | some b=>
   have sab:=ref_same_ok false false b now[i].2
   conv=>whnf
   refine callV_pure sab ⟨.fr rfl,.fr rfl,trivial⟩ ?_
   cases hsab:sameA b now[i].2 with
   | true=>
    have hba:b=now[i].2:=by simpa[sameA]using hsab
    have hs2:comU (comK was (now.take (i + 1)))=out:=by rw[hs,if_pos (by rw[hgw,hba])];exact hout
    conv=>whnf
    exact⟨⟨i + 1,by omega⟩,(Wk.i (by repeat' (first|exact LHa|exact .int_of (wrap64_succ hc hgl)|exact .osl_of rfl (by omega) (by simp only[hs2])|exact LeB.fr (by simp only[hs2]) id id|exact .A|exact LeL.fr rfl|exact LHb|refine Or.inl ⟨by simp,_,rfl,?_⟩|exact Or.inr ⟨by simp,_,_,_,_,rfl⟩|refine⟨rfl,rfl,rfl,rfl,rfl,rfl,?_⟩|refine⟨?_,?_⟩)) (by omega)),by simp only;omega⟩
   | false=>
   have hba:b ≠ now[i].2:=by simpa[sameA]using hsab
   have hs2:comU (comK was (now.take (i + 1)))=comS out now[i]:=by rw[hs,if_neg (by rw[hgw];simpa using hba),hcu]
   conv=>whnf
   refine vcg_loop tab_ok mixed (fun q:{q:Nat × Bool // G.length≤q.1∧q.1≤G.length + out.length∧(q.2=false→NoF out now[i] (q.1 - G.length))∧(q.2=true→(comS out now[i]).length=out.length)}=>⟨[(0,encEns false was),(1,encEns false now),(5,.osl 0 10 0 (bothU G out).length),(12,cI G.length),(13,cI i),(14,.ptr 1 0),(15,.ptr 2 0),(18,.bool q.1.2),(19,cI q.1.1)],[(0,arrF (bothU G (if q.1.2 then comS out now[i]else out))),(1,varP now[i].1),(2,some (.var true 35 (cellsA false now[i].2)))],3⟩) (fun q=>G.length + out.length + 1 - q.1.1) ⟨(G.length,false),by simp,by simp,fun _ j _ h=>by simp at h,by simp⟩ (Wk.i (by repeat' (first|exact LHa|exact .int_of (by simp)|exact .A|exact LeL.fr rfl|exact LHb|refine Or.inl ⟨by simp,_,rfl,?_⟩|exact Or.inr ⟨by simp,_,_,_,_,rfl⟩|refine⟨rfl,rfl,rfl,rfl,rfl,rfl,?_⟩|refine⟨?_,?_⟩)) (by omega)) (fun q=>?_)
   obtain⟨⟨k,put⟩,hk1,hk2,hno,hpl⟩:=q
   have hk1:G.length≤k:=hk1
   have hk2:k≤G.length + out.length:=hk2
   cases put with
   | true=>
    have hpl:(comS out now[i]).length=out.length:=hpl rfl
    conv=>whnf
    intro _
    conv=>whnf
    split<;>((conv=>whnf);exact⟨⟨i + 1,by omega⟩,(Wk.i (by repeat' (first|exact LHa|exact .int_of (wrap64_succ hc hgl)|exact .osl_of rfl (by omega) (by simp only[hs2,both_len,hpl])|exact LeB.fr (by simp only[hs2,if_true]) id id|exact .A|exact LeL.fr rfl|exact LHb|refine Or.inl ⟨by simp,_,rfl,?_⟩|exact Or.inr ⟨by simp,_,_,_,_,rfl⟩|refine⟨rfl,rfl,rfl,rfl,rfl,rfl,?_⟩|refine⟨?_,?_⟩)) (by omega)),by simp only;omega⟩)
   | false=>
    have hno:NoF out now[i] (k - G.length):=hno rfl
    conv=>whnf
    intro _
    conv=>whnf
    split
    ·rename_i hck
     have hck:k < G.length + out.length:=by rw[both_len]at hck;simp at hck;omega
     obtain⟨j,rfl⟩:∃j,k=G.length + j:=⟨k - G.length,by omega⟩
     have hj:j < out.length:=by omega
     rw[Nat.add_sub_cancel_left]at hno
     have hkl:G.length + j < (bothU G out).length:=by rw[both_len];omega
     have hix:(rowsUf (bothU G out))[G.length + j]? = some (cellsU false ⟨[],out[j].1,out[j].2⟩):=by rw[idxUf hkl,both_at G out hj hkl]
     have hfew:=hI.few _ (List.getElem_mem hj)
     have sm:=ref_same_ok false false out[j].2 now[i].2
     have hf:=fits26_ok false ⟨[],out[j].1 ++ [now[i].1],now[i].2⟩ ⟨by simp,by simp;omega,hra.2⟩
     conv=>whnf
     refine⟨rfl,⟨by simp only;omega,by simp only;omega⟩,?_⟩
     conv=>whnf
     rw[show 0 + ((G.length + j:Nat):Int).toNat=G.length + j by rw[Nat.zero_add,Int.toNat_natCast]]
     refine⟨rfl,_,hix,?_⟩
     conv=>whnf
     refine⟨⟨rfl,rfl,rfl,rfl,by decide⟩,by simp,⟨by simp[tab,tabOf,nth];omega,by simp;omega⟩,?_⟩
     conv=>whnf
     refine⟨rfl,by simp,?_⟩
     conv=>whnf
     refine⟨⟨rfl,rfl,rfl,rfl,by decide⟩,by simp,⟨by simp[tab,tabOf,nth];omega,by simp;omega⟩,?_⟩
     conv=>whnf
     refine⟨by kernel_rfl,?_⟩
     conv=>whnf
     refine⟨rfl,⟨by simp only;omega,by simp only;omega⟩,?_⟩
     conv=>whnf
     rw[show 0 + ((G.length + j:Nat):Int).toNat=G.length + j by rw[Nat.zero_add,Int.toNat_natCast]]
     refine⟨rfl,_,hix,?_⟩
     conv=>whnf
     refine⟨_,[],fun h nx _=>pureV_pure sm ⟨.fr rfl,.fr rfl,trivial⟩,by simp,?_⟩
     cases hsm:sameA out[j].2 now[i].2 with
     | false=>
      have hcf:comF now[i].1 now[i].2 out[j]=false:=by
       simp only[sameA,decide_eq_false_iff_not]at hsm
       simp[comF,hsm]
      conv=>whnf
      refine⟨by kernel_rfl,?_⟩
      conv=>whnf
      exact⟨⟨(G.length + j + 1,false),by simp only;omega,by simp only;omega,fun _=>by simp only;rw[show G.length + j + 1 - G.length=j + 1 by omega];exact hno.step hj hcf,by simp⟩,(Wk.i (by repeat' (first|exact LHa|exact .int_of (wrap64_succ' (n:=G.length + j) (by have:=hI.len;omega))|exact .A|exact LeL.fr rfl|exact LHb|refine Or.inl ⟨by simp,_,rfl,?_⟩|exact Or.inr ⟨by simp,_,_,_,_,rfl⟩|refine⟨rfl,rfl,rfl,rfl,rfl,rfl,?_⟩|refine⟨?_,?_⟩)) (by omega)),by simp only;omega⟩
     | true=>
      have hsm':out[j].2=now[i].2:=by simpa[sameA]using hsm
      conv=>whnf
      refine⟨.bool (decide (checkU ⟨[],out[j].1 ++ [now[i].1],now[i].2⟩=0)),[(6,some (.arr true false 31 2 (appRows out[j].1 now[i].1)))],fun h nx hrd=>?_,by intro b ob hb;simp at hb;obtain⟨rfl,rfl⟩:=hb;rfl,?_⟩
      ·have h6:hget h 6=some (.arr true false 31 2 (appRows out[j].1 now[i].1)):=hrd _ _ (by simp)
       exact pureV_lend [6] hf ⟨.aggL ⟨.snil_sl,.fresh_off (.freezeE (by simp) h6 (by simp[appRows]) (twoApp _ _) (rowsP_free _)),.fr rfl,.fr rfl,.fr rfl,.fr rfl,.fr rfl,.fr rfl,.fr rfl,.fr rfl,trivial⟩,trivial⟩ (by intro v hv;simp at hv;subst hv;exact encU_cld _) (one_none h6) .bool
      by_cases hck2:checkU ⟨[],out[j].1 ++ [now[i].1],now[i].2⟩=0
      ·have hcs:=comS_set hj hno hsm' hck2
       rw[decide_eq_true hck2]
       conv=>whnf
       refine⟨by kernel_rfl,?_⟩
       conv=>whnf
       refine⟨rfl,⟨by simp only;omega,by simp only;omega⟩,?_⟩
       conv=>whnf
       rw[show 0 + ((G.length + j:Nat):Int).toNat=G.length + j by rw[Nat.zero_add,Int.toNat_natCast]]
       refine⟨rfl,_,hix,?_⟩
       conv=>whnf
       exact⟨⟨(G.length + j + 1,true),by simp only;omega,by simp only;omega,by simp,fun _=>by rw[hcs];simp⟩,(Wk.all id [6] (by repeat' (first|exact LHa|exact .int_of (wrap64_succ' (n:=G.length + j) (by have:=hI.len;omega))|exact Or.inl ⟨by decide,_,rfl,id,id,rfl,rfl,LeR.out (LeR.of_eq' (LeR.set (LeR.free (rowsUf_free (bothU G out))) (y:=cellsU false ⟨[],out[j].1 ++ [now[i].1],now[i].2⟩) ⟨.snil_sl,.fresh_off (.freezeE (by simp) rfl (by simp) (twoApp _ _) (rowsP_free _)),.fr rfl,.fr rfl,.fr rfl,.fr rfl,.fr rfl,.fr rfl,.fr rfl,.fr rfl,trivial⟩) (by simp only[if_true,hcs];rw[← both_set];simp))⟩|exact .A|exact LeL.fr rfl|exact LHb|refine Or.inl ⟨by simp,_,rfl,?_⟩|exact Or.inr ⟨by simp,_,_,_,_,rfl⟩|refine⟨rfl,rfl,rfl,rfl,rfl,rfl,?_⟩|refine⟨?_,?_⟩)) (fun _ _ _ _ h=>h) (fun _ _=>rfl) (by omega) (by intro z hz;simp only[List.mem_cons,List.not_mem_nil,or_false]at hz;rcases hz with rfl<;>exact ne_none_of rfl)),by simp only;omega⟩
      ·have hcf:comF now[i].1 now[i].2 out[j]=false:=by simp[comF,hck2]
       rw[decide_eq_false hck2]
       conv=>whnf
       refine⟨by kernel_rfl,?_⟩
       conv=>whnf
       exact⟨⟨(G.length + j + 1,false),by simp only;omega,by simp only;omega,fun _=>by simp only;rw[show G.length + j + 1 - G.length=j + 1 by omega];exact hno.step hj hcf,by simp⟩,(Wk.i (by repeat' (first|exact LHa|exact .int_of (wrap64_succ' (n:=G.length + j) (by have:=hI.len;omega))|exact .A|exact LeL.fr rfl|exact LHb|refine Or.inl ⟨by simp,_,rfl,?_⟩|exact Or.inr ⟨by simp,_,_,_,_,rfl⟩|refine⟨rfl,rfl,rfl,rfl,rfl,rfl,?_⟩|refine⟨?_,?_⟩)) (by omega)),by simp only;omega⟩
    rename_i hck
    have hck:k=G.length + out.length:=by rw[both_len]at hck;simp at hck;omega
    subst hck
    rw[Nat.add_sub_cancel_left]at hno
    have hn1:=comS_miss hno
    conv=>whnf
    refine⟨rfl,by simp,?_⟩
    conv=>whnf
    refine⟨⟨rfl,rfl,rfl,rfl,by decide⟩,by simp,⟨by simp[tab,tabOf,nth,both_len];have:=hI.len;omega,by simp[both_len];have:=hI.len;omega⟩,?_⟩
    conv=>whnf
    exact⟨⟨i + 1,by omega⟩,(Wk.all (renOf [(0,5)]) [3] (by repeat' (first|exact LHa|exact .int_of (wrap64_succ hc hgl)|exact .osl_of rfl (by omega) (by simp only[hs2,hn1];simp[both_len];omega)|exact Or.inl ⟨by decide,_,rfl,id,id,rfl,rfl,LeR.out (LeR.of_eq' (LeR.app (LeR.of_eq (List.take_of_length_le (by simp)) (.free (rowsUf_free (bothU G out)))) (ys':=rowsUf [⟨[],[now[i].1],now[i].2⟩]) ⟨⟨.snil_sl,.fresh_off (.freezeE (by simp) rfl (by simp) rfl (rowsP_free _)),.fr rfl,.fr rfl,.fr rfl,.fr rfl,.fr rfl,.fr rfl,.fr rfl,.fr rfl,trivial⟩,trivial⟩) (by simp only[hs2,hn1,both_snoc];simp))⟩|exact .A|exact LeL.fr rfl|exact LHb|refine Or.inl ⟨by simp,_,rfl,?_⟩|exact Or.inr ⟨by simp,_,_,_,_,rfl⟩|refine⟨rfl,rfl,rfl,rfl,rfl,rfl,?_⟩|refine⟨?_,?_⟩)) (show ∀b∈([0]:List Nat),∀b'∈([0]:List Nat),(renOf [(0,5)]) b=(renOf [(0,5)]) b'→b=b' by decide) (fun _ h=>by omega) (by omega) (by intro z hz;simp only[List.mem_cons,List.not_mem_nil,or_false]at hz;rcases hz with rfl<;>exact ne_none_of rfl)),by simp only;omega⟩
  | none=>
   have hs2:comU (comK was (now.take (i + 1)))=comS out now[i]:=by rw[hs,if_neg (by rw[hgw];simp),hcu]
   conv=>whnf
   refine vcg_loop tab_ok mixed (fun q:{q:Nat × Bool // G.length≤q.1∧q.1≤G.length + out.length∧(q.2=false→NoF out now[i] (q.1 - G.length))∧(q.2=true→(comS out now[i]).length=out.length)}=>⟨[(0,encEns false was),(1,encEns false now),(5,.osl 0 10 0 (bothU G out).length),(12,cI G.length),(13,cI i),(14,.ptr 1 0),(15,.ptr 2 0),(18,.bool q.1.2),(19,cI q.1.1)],[(0,arrF (bothU G (if q.1.2 then comS out now[i]else out))),(1,varP now[i].1),(2,some (.var true 35 (cellsA false now[i].2)))],3⟩) (fun q=>G.length + out.length + 1 - q.1.1) ⟨(G.length,false),by simp,by simp,fun _ j _ h=>by simp at h,by simp⟩ (Wk.i (by repeat' (first|exact LHa|exact .int_of (by simp)|exact .A|exact LeL.fr rfl|exact LHb|refine Or.inl ⟨by simp,_,rfl,?_⟩|exact Or.inr ⟨by simp,_,_,_,_,rfl⟩|refine⟨rfl,rfl,rfl,rfl,rfl,rfl,?_⟩|refine⟨?_,?_⟩)) (by omega)) (fun q=>?_)
   obtain⟨⟨k,put⟩,hk1,hk2,hno,hpl⟩:=q
   have hk1:G.length≤k:=hk1
   have hk2:k≤G.length + out.length:=hk2
   cases put with
   | true=>
    have hpl:(comS out now[i]).length=out.length:=hpl rfl
    conv=>whnf
    intro _
    conv=>whnf
    split<;>((conv=>whnf);exact⟨⟨i + 1,by omega⟩,(Wk.i (by repeat' (first|exact LHa|exact .int_of (wrap64_succ hc hgl)|exact .osl_of rfl (by omega) (by simp only[hs2,both_len,hpl])|exact LeB.fr (by simp only[hs2,if_true]) id id|exact .A|exact LeL.fr rfl|exact LHb|refine Or.inl ⟨by simp,_,rfl,?_⟩|exact Or.inr ⟨by simp,_,_,_,_,rfl⟩|refine⟨rfl,rfl,rfl,rfl,rfl,rfl,?_⟩|refine⟨?_,?_⟩)) (by omega)),by simp only;omega⟩)
   | false=>
    have hno:NoF out now[i] (k - G.length):=hno rfl
    conv=>whnf
    intro _
    conv=>whnf
    split
    ·rename_i hck
     have hck:k < G.length + out.length:=by rw[both_len]at hck;simp at hck;omega
     obtain⟨j,rfl⟩:∃j,k=G.length + j:=⟨k - G.length,by omega⟩
     have hj:j < out.length:=by omega
     rw[Nat.add_sub_cancel_left]at hno
     have hkl:G.length + j < (bothU G out).length:=by rw[both_len];omega
     have hix:(rowsUf (bothU G out))[G.length + j]? = some (cellsU false ⟨[],out[j].1,out[j].2⟩):=by rw[idxUf hkl,both_at G out hj hkl]
     have hfew:=hI.few _ (List.getElem_mem hj)
     have sm:=ref_same_ok false false out[j].2 now[i].2
     have hf:=fits26_ok false ⟨[],out[j].1 ++ [now[i].1],now[i].2⟩ ⟨by simp,by simp;omega,hra.2⟩
     conv=>whnf
     refine⟨rfl,⟨by simp only;omega,by simp only;omega⟩,?_⟩
     conv=>whnf
     rw[show 0 + ((G.length + j:Nat):Int).toNat=G.length + j by rw[Nat.zero_add,Int.toNat_natCast]]
     refine⟨rfl,_,hix,?_⟩
     conv=>whnf
     refine⟨⟨rfl,rfl,rfl,rfl,by decide⟩,by simp,⟨by simp[tab,tabOf,nth];omega,by simp;omega⟩,?_⟩
     conv=>whnf
     refine⟨rfl,by simp,?_⟩
     conv=>whnf
     refine⟨⟨rfl,rfl,rfl,rfl,by decide⟩,by simp,⟨by simp[tab,tabOf,nth];omega,by simp;omega⟩,?_⟩
     conv=>whnf
     refine⟨by kernel_rfl,?_⟩
     conv=>whnf
     refine⟨rfl,⟨by simp only;omega,by simp only;omega⟩,?_⟩
     conv=>whnf
     rw[show 0 + ((G.length + j:Nat):Int).toNat=G.length + j by rw[Nat.zero_add,Int.toNat_natCast]]
     refine⟨rfl,_,hix,?_⟩
     conv=>whnf
     refine⟨_,[],fun h nx _=>pureV_pure sm ⟨.fr rfl,.fr rfl,trivial⟩,by simp,?_⟩
     cases hsm:sameA out[j].2 now[i].2 with
     | false=>
      have hcf:comF now[i].1 now[i].2 out[j]=false:=by
       simp only[sameA,decide_eq_false_iff_not]at hsm
       simp[comF,hsm]
      conv=>whnf
      refine⟨by kernel_rfl,?_⟩
      conv=>whnf
      exact⟨⟨(G.length + j + 1,false),by simp only;omega,by simp only;omega,fun _=>by simp only;rw[show G.length + j + 1 - G.length=j + 1 by omega];exact hno.step hj hcf,by simp⟩,(Wk.i (by repeat' (first|exact LHa|exact .int_of (wrap64_succ' (n:=G.length + j) (by have:=hI.len;omega))|exact .A|exact LeL.fr rfl|exact LHb|refine Or.inl ⟨by simp,_,rfl,?_⟩|exact Or.inr ⟨by simp,_,_,_,_,rfl⟩|refine⟨rfl,rfl,rfl,rfl,rfl,rfl,?_⟩|refine⟨?_,?_⟩)) (by omega)),by simp only;omega⟩
     | true=>
      have hsm':out[j].2=now[i].2:=by simpa[sameA]using hsm
      conv=>whnf
      refine⟨.bool (decide (checkU ⟨[],out[j].1 ++ [now[i].1],now[i].2⟩=0)),[(6,some (.arr true false 31 2 (appRows out[j].1 now[i].1)))],fun h nx hrd=>?_,by intro b ob hb;simp at hb;obtain⟨rfl,rfl⟩:=hb;rfl,?_⟩
      ·have h6:hget h 6=some (.arr true false 31 2 (appRows out[j].1 now[i].1)):=hrd _ _ (by simp)
       exact pureV_lend [6] hf ⟨.aggL ⟨.snil_sl,.fresh_off (.freezeE (by simp) h6 (by simp[appRows]) (twoApp _ _) (rowsP_free _)),.fr rfl,.fr rfl,.fr rfl,.fr rfl,.fr rfl,.fr rfl,.fr rfl,.fr rfl,trivial⟩,trivial⟩ (by intro v hv;simp at hv;subst hv;exact encU_cld _) (one_none h6) .bool
      by_cases hck2:checkU ⟨[],out[j].1 ++ [now[i].1],now[i].2⟩=0
      ·have hcs:=comS_set hj hno hsm' hck2
       rw[decide_eq_true hck2]
       conv=>whnf
       refine⟨by kernel_rfl,?_⟩
       conv=>whnf
       refine⟨rfl,⟨by simp only;omega,by simp only;omega⟩,?_⟩
       conv=>whnf
       rw[show 0 + ((G.length + j:Nat):Int).toNat=G.length + j by rw[Nat.zero_add,Int.toNat_natCast]]
       refine⟨rfl,_,hix,?_⟩
       conv=>whnf
       exact⟨⟨(G.length + j + 1,true),by simp only;omega,by simp only;omega,by simp,fun _=>by rw[hcs];simp⟩,(Wk.all id [6] (by repeat' (first|exact LHa|exact .int_of (wrap64_succ' (n:=G.length + j) (by have:=hI.len;omega))|exact Or.inl ⟨by decide,_,rfl,id,id,rfl,rfl,LeR.out (LeR.of_eq' (LeR.set (LeR.free (rowsUf_free (bothU G out))) (y:=cellsU false ⟨[],out[j].1 ++ [now[i].1],now[i].2⟩) ⟨.snil_sl,.fresh_off (.freezeE (by simp) rfl (by simp) (twoApp _ _) (rowsP_free _)),.fr rfl,.fr rfl,.fr rfl,.fr rfl,.fr rfl,.fr rfl,.fr rfl,.fr rfl,trivial⟩) (by simp only[if_true,hcs];rw[← both_set];simp))⟩|exact .A|exact LeL.fr rfl|exact LHb|refine Or.inl ⟨by simp,_,rfl,?_⟩|exact Or.inr ⟨by simp,_,_,_,_,rfl⟩|refine⟨rfl,rfl,rfl,rfl,rfl,rfl,?_⟩|refine⟨?_,?_⟩)) (fun _ _ _ _ h=>h) (fun _ _=>rfl) (by omega) (by intro z hz;simp only[List.mem_cons,List.not_mem_nil,or_false]at hz;rcases hz with rfl<;>exact ne_none_of rfl)),by simp only;omega⟩
      ·have hcf:comF now[i].1 now[i].2 out[j]=false:=by simp[comF,hck2]
       rw[decide_eq_false hck2]
       conv=>whnf
       refine⟨by kernel_rfl,?_⟩
       conv=>whnf
       exact⟨⟨(G.length + j + 1,false),by simp only;omega,by simp only;omega,fun _=>by simp only;rw[show G.length + j + 1 - G.length=j + 1 by omega];exact hno.step hj hcf,by simp⟩,(Wk.i (by repeat' (first|exact LHa|exact .int_of (wrap64_succ' (n:=G.length + j) (by have:=hI.len;omega))|exact .A|exact LeL.fr rfl|exact LHb|refine Or.inl ⟨by simp,_,rfl,?_⟩|exact Or.inr ⟨by simp,_,_,_,_,rfl⟩|refine⟨rfl,rfl,rfl,rfl,rfl,rfl,?_⟩|refine⟨?_,?_⟩)) (by omega)),by simp only;omega⟩
    rename_i hck
    have hck:k=G.length + out.length:=by rw[both_len]at hck;simp at hck;omega
    subst hck
    rw[Nat.add_sub_cancel_left]at hno
    have hn1:=comS_miss hno
    conv=>whnf
    refine⟨rfl,by simp,?_⟩
    conv=>whnf
    refine⟨⟨rfl,rfl,rfl,rfl,by decide⟩,by simp,⟨by simp[tab,tabOf,nth,both_len];have:=hI.len;omega,by simp[both_len];have:=hI.len;omega⟩,?_⟩
    conv=>whnf
    exact⟨⟨i + 1,by omega⟩,(Wk.all (renOf [(0,5)]) [3] (by repeat' (first|exact LHa|exact .int_of (wrap64_succ hc hgl)|exact .osl_of rfl (by omega) (by simp only[hs2,hn1];simp[both_len];omega)|exact Or.inl ⟨by decide,_,rfl,id,id,rfl,rfl,LeR.out (LeR.of_eq' (LeR.app (LeR.of_eq (List.take_of_length_le (by simp)) (.free (rowsUf_free (bothU G out)))) (ys':=rowsUf [⟨[],[now[i].1],now[i].2⟩]) ⟨⟨.snil_sl,.fresh_off (.freezeE (by simp) rfl (by simp) rfl (rowsP_free _)),.fr rfl,.fr rfl,.fr rfl,.fr rfl,.fr rfl,.fr rfl,.fr rfl,.fr rfl,trivial⟩,trivial⟩) (by simp only[hs2,hn1,both_snoc];simp))⟩|exact .A|exact LeL.fr rfl|exact LHb|refine Or.inl ⟨by simp,_,rfl,?_⟩|exact Or.inr ⟨by simp,_,_,_,_,rfl⟩|refine⟨rfl,rfl,rfl,rfl,rfl,rfl,?_⟩|refine⟨?_,?_⟩)) (show ∀b∈([0]:List Nat),∀b'∈([0]:List Nat),(renOf [(0,5)]) b=(renOf [(0,5)]) b'→b=b' by decide) (fun _ h=>by omega) (by omega) (by intro z hz;simp only[List.mem_cons,List.not_mem_nil,or_false]at hz;rcases hz with rfl<;>exact ne_none_of rfl)),by simp only;omega⟩
 rename_i hc
 have hc:i=now.length:=by simp at hc;omega
 subst hc
 rw[List.take_length]
 conv=>whnf
 exact(Ends.pure [0] (by repeat' (first|exact True.intro|exact .fresh_off (.freezeE (by simp) rfl (by simp) (by simp[List.take_of_length_le]) (rowsUf_free _))|exact .A|exact LeL.fr rfl|refine .tupL ?_|refine .aggL ?_|refine⟨?_,?_⟩)) (by intro z hz;simp only[List.mem_cons,List.not_mem_nil,or_false]at hz;rcases hz with rfl<;>exact ne_none_of rfl))
end
section
open Go.Proofs.Tryz (prog)
def oneR (o:OutS) (p:Prefix) (r:Route):Option (Prefix × Attrs):=if r.pfx=p then(sayO o.self o.peer o.pol r).map fun a=>(p,a)else none
def allR (l:List Route):List Prefix:=sortPs (dd (pfxs l))
def nowR (o:OutS) (K:List Prefix) (l:List Route):List (Prefix × Attrs):=K.flatMap fun p=>l.filterMap (oneR o p)
theorem nowR_succ {o:OutS} {K:List Prefix} {l:List Route} {i:Nat} (h:i < K.length):nowR o (K.take (i + 1)) l=nowR o (K.take i) l ++ l.filterMap (oneR o K[i]):=by
 unfold nowR
 rw[List.take_succ_eq_append_getElem h,List.flatMap_append]
 simp
theorem oneR_succ {o:OutS} {p:Prefix} {l:List Route} {i:Nat} (h:i < l.length):(l.take (i + 1)).filterMap (oneR o p)=(l.take i).filterMap (oneR o p)++ (oneR o p l[i]).toList:=by
 rw[List.take_succ_eq_append_getElem h,List.filterMap_append]
 cases ho:oneR o p l[i]<;>simp[ho]
theorem nowR_len (o:OutS) (l:List Route):∀K:List Prefix,(nowR o K l).length≤K.length * l.length
 | []=>by simp[nowR]
 | p :: K=>by
  have ih:=nowR_len o l K
  have e:nowR o (p :: K) l=l.filterMap (oneR o p)++ nowR o K l:=rfl
  rw[e,List.length_append,List.length_cons,Nat.succ_mul]
  have:=List.length_filterMap_le (oneR o p) l
  omega
theorem nowR_mem {o:OutS} {K:List Prefix} {l:List Route} {e:Prefix × Attrs}:e∈nowR o K l↔e.1∈K∧∃r∈l,r.pfx=e.1∧sayO o.self o.peer o.pol r=some e.2:=by
 obtain⟨p,a⟩:=e
 simp only[nowR,List.mem_flatMap,List.mem_filterMap,oneR]
 constructor
 ·rintro ⟨q,hq,r,hr,h⟩
  split at h
  ·rename_i hp
   obtain⟨b,hb,he⟩:=Option.map_eq_some_iff.1 h
   cases he
   exact⟨hq,r,hr,hp,hb⟩
  ·cases h
 ·rintro ⟨hq,r,hr,hp,hs⟩
  exact⟨p,hq,r,hr,by rw[if_pos hp,hs];rfl⟩
theorem nowL_mem {s:SelfL} {pe:Peer} {pol:Policy} {l:List Route} {e:Prefix × Attrs}:e∈nowL s pe pol l↔∃r∈l,r.pfx=e.1∧sayO s pe pol r=some e.2:=by
 obtain⟨p,a⟩:=e
 simp only[nowL,List.mem_filterMap]
 constructor
 ·rintro ⟨r,hr,h⟩
  obtain⟨b,hb,he⟩:=Option.map_eq_some_iff.1 h
  cases he
  exact⟨r,hr,rfl,hb⟩
 ·rintro ⟨r,hr,hp,hs⟩
  exact⟨r,hr,by rw[hs];simp[← hp]⟩
theorem one_le {o:OutS} {p:Prefix}:∀{l:List Route},(pfxs l).Nodup→(l.filterMap (oneR o p)).length≤1
 | [],_=>by simp
 | r :: l,h=>by
  simp only[pfxs,List.map_cons,List.nodup_cons]at h
  have ih:=one_le (o:=o) (p:=p) (l:=l) h.2
  rw[List.filterMap_cons]
  cases ho:oneR o p r with
  | none=>exact ih
  | some e=>
   have hp:r.pfx=p:=by
    unfold oneR at ho
    split at ho
    ·assumption
    ·cases ho
   have hz:l.filterMap (oneR o p)=[]:=by
    rw[List.filterMap_eq_nil_iff]
    intro q hq
    rw[oneR,if_neg]
    intro e
    exact h.1 (by rw[hp,← e];exact List.mem_map.2 ⟨q,hq,rfl⟩)
   rw[hz]
   simp
theorem nowR_keys_sub {o:OutS} {l:List Route} (h:(pfxs l).Nodup):∀K:List Prefix,(keysE (nowR o K l)).Sublist K
 | []=>by simp[nowR,keysE]
 | p :: K=>by
  have ih:=nowR_keys_sub (o:=o) h K
  have e:nowR o (p :: K) l=l.filterMap (oneR o p)++ nowR o K l:=rfl
  rw[e]
  unfold keysE at ih ⊢
  rw[List.map_append]
  have h1:=one_le (o:=o) (p:=p) h
  have hk:∀x∈l.filterMap (oneR o p),x.1=p:=by
   intro x hx
   obtain⟨r,_,hr⟩:=List.mem_filterMap.1 hx
   unfold oneR at hr
   split at hr
   ·obtain⟨b,_,hb⟩:=Option.map_eq_some_iff.1 hr
    rw[← hb]
   ·cases hr
  match hm:l.filterMap (oneR o p),h1 with
  | [],_=>exact ih.cons p
  | [x],_=>
   rw[hm]at hk
   have:=hk x (by simp)
   simp only[List.map_cons,List.map_nil,List.singleton_append,this]
   exact ih.cons_cons p
theorem sortPs_strict {l:List Prefix} (hn:l.Nodup):(sortPs l).Pairwise fun x y=>pkey x < pkey y:=by
 have h2:(sortPs l).Nodup:=(List.mergeSort_perm l _).nodup_iff.2 hn
 exact((sortPs_sorted l).and h2).imp fun⟨h1,h2⟩=>Nat.lt_of_le_of_ne h1 fun e=>h2 (pkey_inj e)
theorem allR_eq {l:List Route} (h:okT l=true):allR l=sortPs (pfxs l):=by
 obtain⟨h1,h2⟩:=okT_out h
 unfold allR
 rw[dd_self (fun p hp=>?_) h2]
 obtain⟨r,hr,rfl⟩:=List.mem_map.1 hp
 have:=h1 r hr
 simp only[rightR,Bool.and_eq_true]at this
 exact this.1
theorem nowR_perm {o:OutS} {l:List Route} (h:okT l=true):RisE (nowR o (allR l) l)∧(nowR o (allR l) l).Perm (nowL o.self o.peer o.pol l):=by
 obtain⟨h1,h2⟩:=okT_out h
 have hst:(allR l).Pairwise fun x y=>pkey x < pkey y:=by rw[allR_eq h];exact sortPs_strict h2
 have hris:RisE (nowR o (allR l) l):=List.Pairwise.sublist (nowR_keys_sub h2 _) hst
 refine⟨hris,?_⟩
 rw[List.perm_ext_iff_of_nodup hris.nod.nodup (nowL_nod h2).nodup]
 intro e
 rw[nowR_mem,nowL_mem]
 constructor
 ·exact fun h=>h.2
 ·rintro ⟨r,hr,hp,hs⟩
  refine⟨?_,r,hr,hp,hs⟩
  rw[← hp,allR_eq h,mem_sortPs]
  exact List.mem_map.2 ⟨r,hr,rfl⟩
theorem nowR_right {o:OutS} {K:List Prefix} {l:List Route}:∀e∈nowR o K l,rightA e.2=true:=by
 intro e he
 obtain⟨_,r,_,hp,hs⟩:=nowR_mem.1 he
 have:=sayO_right hs
 exact check_right this
def tellS (o:OutS) (l:List Route):OutS:=if okT l then { o with told:=nowR o (allR l) l } else o
def tellU (o:OutS) (l:List Route):List Upd:=if okT l then updO o.told (nowR o (allR l) l)else []
def tellE (l:List Route):Int:=if okT l then 0 else 2
attribute [local irreducible] CallV RoundV aggK VC
theorem encEn_rows_free (l:List (Prefix × Attrs)):∀x∈l.map (encEn false),∀v∈x,Free v:=by
 intro x hx v hv
 obtain⟨e,_,rfl⟩:=List.mem_map.1 hx
 exact encEn_free false e v hv
instance {l:List (Prefix × Attrs)}:FreeRI (l.map (encEn false)):=⟨⟨encEn_rows_free l⟩⟩
instance {l:List Prefix}:FreeRI (l.map cellsP):=⟨⟨rowsP_free l⟩⟩
theorem LeL.noOS {h:Heap} {nx nx':Nat} {ρ:Nat→Nat} {Z:List Nat}:LeL h nx ρ nx' Z [.int .u32 0,.int .u32 0,.int .u32 0,.int .u32 0,.int .u32 0,.int .u32 0,.bool false,.snil,.bool false,.snil] (cellsOS noOS):=
 ⟨.fr rfl,.fr rfl,.fr rfl,.fr rfl,.fr rfl,.fr rfl,.fr rfl,.snil_sl,.fr rfl,.snil_sl,trivial⟩
abbrev hT26 (o:OutS):Heap:=[(0,some (.var true 47 (cellsOS o))),(1,some (.var true 47 (cellsOS noOS)))]
theorem tell26_bad (o:OutS) (l:List Route) (h:okT l=false):PCon prog 43 [encOS o,encRts l] (.tup [encOS o,encUt false [],.int .i64 2]):=by
 have hr:=right26_ok l
 rw[h]at hr
 refine callV_of (fn:=Go.Proofs.Tryz.f43) (body:=_) tab_ok mixed rfl rfl (by decide) (by simp[Go.Proofs.Tryz.f43]) ?_
 conv=>whnf
 refine callV_pure hr ⟨.fr rfl,trivial⟩ ?_
 conv=>whnf
 exact(Ends.pure [] (by repeat' (first|exact True.intro|exact .tupL ⟨.fr rfl,.snil_sl,.fr rfl,trivial⟩|exact .A|exact LeL.fr rfl|refine .tupL ?_|refine .aggL ?_|refine⟨?_,?_⟩)) (by simp))
theorem tell26_good (o:OutS) (l:List Route) (h:okT l=true) (hl:l.length≤1000) (ht:o.told.length≤1000):PCon prog 43 [encOS o,encRts l] (.tup [encOS { o with told:=nowR o (allR l) l },encUt false (updO o.told (nowR o (allR l) l)),.int .i64 0]):=by
 have hF:FW Fence.wide:=.inl rfl
 have hr:=right26_ok l
 rw[h]at hr
 have hso:=refSort_ok false (pfxs l) (by simp[pfxs];exact hl)
 obtain⟨hris,hperm⟩:=nowR_perm (o:=o) h
 have hnl:(nowR o (allR l) l).length≤1000:=by rw[hperm.length_eq];exact Nat.le_trans nowL_len hl
 have hup:=updates26_ok o.told (nowR o (allR l) l) ht hnl nowR_right
 have hKl:(allR l).length≤1000:=by
  unfold allR
  rw[sortPs_len]
  exact Nat.le_trans (dd_len _) (by simp[pfxs];exact hl)
 rw[show sortPs (dd (pfxs l))=allR l from rfl]at hso
 refine callV_of_vc (fn:=Go.Proofs.Tryz.f43) (body:=_) tab_ok rfl rfl (by simp[Go.Proofs.Tryz.f43]) (Nat.le_of_ble_eq_true rfl) ?_
 refine vc_seq (vcg_ok (rd:=false) tab_ok mixed hF (fun _=>rfl) ?_)
 conv=>whnf
 refine vc_seq (vcg_ok (rd:=false) tab_ok mixed hF (fun _=>rfl) ?_)
 conv=>whnf
 refine callV_pure hr ⟨.fr rfl,trivial⟩ ?_
 conv=>whnf
 refine vc_seq (vcg_ok (rd:=false) tab_ok mixed hF (fun _=>rfl) ?_)
 conv=>whnf
 refine vc_join tab_ok mixed hF (rd:=false) (fun _=>rfl) (fun _:Unit=>⟨[(1,encRts l),(2,.ptr 0 0),(4,.ptr 1 0),(7,encPs false (pfxs l))],hT26 o,2⟩) ?_ fun _=>?_
 ·conv=>whnf
  refine vcg_loop tab_ok mixed (fun i:{i:Nat // i≤l.length}=>⟨[(1,encRts l),(2,.ptr 0 0),(4,.ptr 1 0),(7,.osl 2 2 0 (pfxs (l.take i.1)).length),(8,cI i.1)],(2,some (.arr true false 31 2 (rowsP (pfxs (l.take i.1))))) :: hT26 o,3⟩) (fun i=>l.length - i.1) ⟨0,by omega⟩ (Wk.i (by repeat' (first|exact LHa|exact .int_of (by simp)|exact LeL.freeV (cellsOS_free o)|exact LeL.noOS|exact .A|exact LeL.fr rfl|exact LHb|refine Or.inl ⟨by simp,_,rfl,?_⟩|exact Or.inr ⟨by simp,_,_,_,_,rfl⟩|refine⟨rfl,rfl,rfl,rfl,rfl,rfl,?_⟩|refine⟨?_,?_⟩)) (by omega)) (fun i=>?_)
  obtain⟨i,hi⟩:=i
  conv=>whnf
  intro hgl
  have hgl:l.length≤maxLen:=by simpa[gd]using hgl
  conv=>whnf
  split
  ·rename_i hc
   have hc:i < l.length:=by simpa using hc
   have hlen:(pfxs (l.take i)).length=i:=by simp[pfxs];omega
   conv=>whnf
   refine ixK (idxRt hc) ?_
   conv=>whnf
   refine⟨rfl,by simp,?_⟩
   conv=>whnf
   refine⟨⟨rfl,rfl,rfl,rfl,by decide⟩,by simp,⟨by simp[tab,tabOf,nth,pfxs];omega,by simp[pfxs];omega⟩,?_⟩
   conv=>whnf
   exact⟨⟨i + 1,by omega⟩,(Wk.all (renOf [(2,4)]) [] (by repeat' (first|exact LHa|exact .int_of (wrap64_succ hc hgl)|exact .osl_of rfl (by omega) (by simp only[pfxs_succ hc];simp)|exact LeB.fr (by simp only[pfxs_succ hc,rowsP,List.map_append];rw[List.take_of_length_le (by simp)];rfl) id id|exact LeL.freeV (cellsOS_free o)|exact .A|exact LeL.fr rfl|exact LHb|refine Or.inl ⟨by simp,_,rfl,?_⟩|exact Or.inr ⟨by simp,_,_,_,_,rfl⟩|refine⟨rfl,rfl,rfl,rfl,rfl,rfl,?_⟩|refine⟨?_,?_⟩)) (show ∀b∈([2,0,1]:List Nat),∀b'∈([2,0,1]:List Nat),(renOf [(2,4)]) b=(renOf [(2,4)]) b'→b=b' by decide) (fun _ h=>by omega) (by omega) (by simp)),by simp only;omega⟩
  rename_i hc
  have hc:i=l.length:=by simp at hc;omega
  subst hc
  rw[List.take_length]
  conv=>whnf
  exact⟨(),(Wk.all id [2] (by repeat' (first|exact LHa|exact .fresh_off (.freezeE (by simp) rfl (by simp) (by simp[rowsP,List.take_of_length_le]) (rowsP_free _))|exact LeL.freeV (cellsOS_free o)|exact .A|exact LeL.fr rfl|exact LHb|refine Or.inl ⟨by simp,_,rfl,?_⟩|exact Or.inr ⟨by simp,_,_,_,_,rfl⟩|refine⟨rfl,rfl,rfl,rfl,rfl,rfl,?_⟩|refine⟨?_,?_⟩)) (fun _ _ _ _ h=>h) (fun _ _=>rfl) (by omega) (by intro z hz;simp only[List.mem_cons,List.not_mem_nil,or_false]at hz;rcases hz with rfl<;>exact ne_none_of rfl))⟩
 refine vc_seq (vcg_ok (rd:=false) tab_ok mixed hF (fun _=>rfl) ?_)
 conv=>whnf
 refine callV_pure hso ⟨.fr rfl,trivial⟩ ?_
 generalize allR l=K at *
 conv=>whnf
 refine vc_seq (vcg_ok (rd:=false) tab_ok mixed hF (fun _=>rfl) ?_)
 conv=>whnf
 refine vc_join tab_ok mixed hF (rd:=false) (fun _=>rfl) (fun _:Unit=>⟨[(1,encRts l),(2,.ptr 0 0),(4,.ptr 1 0),(9,encEns false (nowR o K l))],hT26 o,2⟩) ?_ fun _=>?_
 ·conv=>whnf
  refine vcg_loop tab_ok mixed (fun i:{i:Nat // i≤K.length}=>⟨[(1,encRts l),(2,.ptr 0 0),(4,.ptr 1 0),(7,encPs true K),(9,.osl 2 10 0 (nowR o (K.take i.1) l).length),(10,cI i.1)],(2,some (.arr true false 110 10 ((nowR o (K.take i.1) l).map (encEn false)))) :: hT26 o,3⟩) (fun i=>K.length - i.1) ⟨0,by omega⟩ (Wk.i (by repeat' (first|exact LHa|exact .int_of (by simp)|exact LeL.freeV (cellsOS_free o)|exact LeL.freeV (cellsOS_free noOS)|exact .A|exact LeL.fr rfl|exact LHb|refine Or.inl ⟨by simp,_,rfl,?_⟩|exact Or.inr ⟨by simp,_,_,_,_,rfl⟩|refine⟨rfl,rfl,rfl,rfl,rfl,rfl,?_⟩|refine⟨?_,?_⟩)) (by omega)) (fun i=>?_)
  obtain⟨i,hi⟩:=i
  conv=>whnf
  intro hgk
  have hgk:K.length≤maxLen:=by simpa[gd]using hgk
  conv=>whnf
  split
  ·rename_i hc
   have hc:i < K.length:=by simpa using hc
   have hns:=nowR_succ (o:=o) (l:=l) hc
   have hb:(nowR o (K.take i) l).length≤1000000:=by
    refine Nat.le_trans (nowR_len o l (K.take i)) ?_
    have h1:(K.take i).length≤1000:=by rw[List.length_take];omega
    exact Nat.le_trans (Nat.mul_le_mul h1 hl) (by decide)
   generalize nowR o (K.take i) l=n at hns hb ⊢
   conv=>whnf
   refine vcg_loop tab_ok mixed (fun k:{k:Nat // k≤l.length}=>⟨[(1,encRts l),(2,.ptr 0 0),(4,.ptr 1 0),(7,encPs true K),(9,.osl 2 10 0 (n ++ (l.take k.1).filterMap (oneR o K[i])).length),(10,cI i),(11,cI k.1)],(2,some (.arr true false 110 10 ((n ++ (l.take k.1).filterMap (oneR o K[i])).map (encEn false)))) :: hT26 o,3⟩) (fun k=>l.length - k.1) ⟨0,by omega⟩ (Wk.i (by repeat' (first|exact LHa|exact .int_of (by simp)|exact .osl_of rfl (by omega) (by simp)|exact LeB.fr (by simp) id id|exact LeL.freeV (cellsOS_free o)|exact LeL.freeV (cellsOS_free noOS)|exact .A|exact LeL.fr rfl|exact LHb|refine Or.inl ⟨by simp,_,rfl,?_⟩|exact Or.inr ⟨by simp,_,_,_,_,rfl⟩|refine⟨rfl,rfl,rfl,rfl,rfl,rfl,?_⟩|refine⟨?_,?_⟩)) (by omega)) (fun k=>?_)
   obtain⟨k,hk⟩:=k
   conv=>whnf
   intro hgl
   have hgl:l.length≤maxLen:=by simpa[gd]using hgl
   conv=>whnf
   split
   ·rename_i hck
    have hck:k < l.length:=by simpa using hck
    have hks:=oneR_succ (o:=o) (p:=K[i]) hck
    have hsa:=says26_ok o l[k]
    have hkb:((l.take k).filterMap (oneR o K[i])).length≤1000:=Nat.le_trans (List.length_filterMap_le _ _) (by rw[List.length_take];omega)
    generalize (l.take k).filterMap (oneR o K[i])=c at hks hkb ⊢
    conv=>whnf
    refine ixK (idxRt hck) ?_
    conv=>whnf
    refine ixK (idxP hc) ?_
    conv=>whnf
    refine neqP l[k].pfx K[i] ?_
    cases hp:decide (l[k].pfx=K[i])with
    | false=>
     rw[oneR,if_neg (of_decide_eq_false hp),Option.toList_none,List.append_nil]at hks
     conv=>whnf
     refine⟨by kernel_rfl,?_⟩
     conv=>whnf
     exact⟨⟨k + 1,by omega⟩,(Wk.i (by repeat' (first|exact LHa|exact .int_of (wrap64_succ hck hgl)|exact .osl_of rfl (by omega) (by simp only[hks])|exact LeB.fr (by simp only[hks]) id id|exact LeL.freeV (cellsOS_free o)|exact LeL.freeV (cellsOS_free noOS)|exact .A|exact LeL.fr rfl|exact LHb|refine Or.inl ⟨by simp,_,rfl,?_⟩|exact Or.inr ⟨by simp,_,_,_,_,rfl⟩|refine⟨rfl,rfl,rfl,rfl,rfl,rfl,?_⟩|refine⟨?_,?_⟩)) (by omega)),by simp only;omega⟩
    | true=>
    rw[oneR,if_pos (of_decide_eq_true hp)]at hks
    conv=>whnf
    refine⟨by kernel_rfl,?_⟩
    conv=>whnf
    refine ixK (idxRt hck) ?_
    conv=>whnf
    refine⟨_,[],fun h nx _=>pureV_pure hsa ⟨.fr rfl,.fr rfl,trivial⟩,by simp,?_⟩
    conv=>whnf
    refine⟨by kernel_rfl,?_⟩
    conv=>whnf
    cases ho:sayO o.self o.peer o.pol l[k]with
    | none=>
     rw[ho,Option.map_none,Option.toList_none,List.append_nil]at hks
     conv=>whnf
     exact⟨⟨k + 1,by omega⟩,(Wk.i (by repeat' (first|exact LHa|exact .int_of (wrap64_succ hck hgl)|exact .osl_of rfl (by omega) (by simp only[hks])|exact LeB.fr (by simp only[hks]) id id|exact LeL.freeV (cellsOS_free o)|exact LeL.freeV (cellsOS_free noOS)|exact .A|exact LeL.fr rfl|exact LHb|refine Or.inl ⟨by simp,_,rfl,?_⟩|exact Or.inr ⟨by simp,_,_,_,_,rfl⟩|refine⟨rfl,rfl,rfl,rfl,rfl,rfl,?_⟩|refine⟨?_,?_⟩)) (by omega)),by simp only;omega⟩
    | some a=>
    rw[ho,Option.map_some,Option.toList_some]at hks
    conv=>whnf
    refine ixK (idxP hc) ?_
    conv=>whnf
    refine⟨rfl,by simp,?_⟩
    conv=>whnf
    refine⟨⟨rfl,rfl,rfl,rfl,by decide⟩,by simp,⟨by simp[tab,tabOf,nth];omega,by simp;omega⟩,?_⟩
    conv=>whnf
    refine⟨by kernel_rfl,?_⟩
    conv=>whnf
    exact⟨⟨k + 1,by omega⟩,(Wk.all (renOf [(2,5)]) [] (by repeat' (first|exact LHa|exact .int_of (wrap64_succ hck hgl)|exact .osl_of rfl (by omega) (by simp only[hks];simp;omega)|exact LeB.fr (by simp only[hks,List.map_append];rw[List.take_of_length_le (by simp)];simp[encEn,cellsP,cellsA]) id id|exact LeL.freeV (cellsOS_free o)|exact LeL.freeV (cellsOS_free noOS)|exact .A|exact LeL.fr rfl|exact LHb|refine Or.inl ⟨by simp,_,rfl,?_⟩|exact Or.inr ⟨by simp,_,_,_,_,rfl⟩|refine⟨rfl,rfl,rfl,rfl,rfl,rfl,?_⟩|refine⟨?_,?_⟩)) (show ∀b∈([2,0,1]:List Nat),∀b'∈([2,0,1]:List Nat),(renOf [(2,5)]) b=(renOf [(2,5)]) b'→b=b' by decide) (fun _ h=>by omega) (by omega) (by simp)),by simp only;omega⟩
   rename_i hck
   have hck:k=l.length:=by simp at hck;omega
   subst hck
   rw[List.take_length]
   conv=>whnf
   exact⟨⟨i + 1,by omega⟩,(Wk.i (by repeat' (first|exact LHa|exact .int_of (wrap64_succ hc hgk)|exact .osl_of rfl (by omega) (by simp only[hns])|exact LeB.fr (by simp only[hns]) id id|exact LeL.freeV (cellsOS_free o)|exact LeL.freeV (cellsOS_free noOS)|exact .A|exact LeL.fr rfl|exact LHb|refine Or.inl ⟨by simp,_,rfl,?_⟩|exact Or.inr ⟨by simp,_,_,_,_,rfl⟩|refine⟨rfl,rfl,rfl,rfl,rfl,rfl,?_⟩|refine⟨?_,?_⟩)) (by omega)),by simp only;omega⟩
  rename_i hc
  have hc:i=K.length:=by simp at hc;omega
  subst hc
  rw[List.take_length]
  conv=>whnf
  exact⟨(),(Wk.all id [2] (by repeat' (first|exact LHa|exact .fresh_off (.freezeE (by simp) rfl (by simp) (by simp[List.take_of_length_le]) (encEn_rows_free _))|exact LeL.freeV (cellsOS_free o)|exact LeL.freeV (cellsOS_free noOS)|exact .A|exact LeL.fr rfl|exact LHb|refine Or.inl ⟨by simp,_,rfl,?_⟩|exact Or.inr ⟨by simp,_,_,_,_,rfl⟩|refine⟨rfl,rfl,rfl,rfl,rfl,rfl,?_⟩|refine⟨?_,?_⟩)) (fun _ _ _ _ h=>h) (fun _ _=>rfl) (by omega) (by intro z hz;simp only[List.mem_cons,List.not_mem_nil,or_false]at hz;rcases hz with rfl<;>exact ne_none_of rfl))⟩
 refine vcg_ok (rd:=false) tab_ok mixed hF (fun _=>rfl) ?_
 conv=>whnf
 refine callV_pure hup ⟨.fr rfl,.fr rfl,trivial⟩ ?_
 conv=>whnf
 exact Ends.pure [] (.tupL ⟨.eq_of rfl (encOS_free { o with told:=nowR o K l }),.fr rfl,.fr rfl,trivial⟩) (by simp)
end
section
open Go.Proofs.Tryz (prog)
attribute [local irreducible] CallV RoundV aggK
theorem num26_ok (n:Int):PCon prog 13 [.int .i64 n] (.int .i64 n):=by
 refine callV_of (fn:=Go.Proofs.Tryz.f13) (body:=_) tab_ok mixed rfl rfl (by decide) (by simp[Go.Proofs.Tryz.f13]) ?_
 conv=>whnf
 exact(Ends.pure [] (by repeat' (first|exact True.intro|exact .fr rfl|exact .A|exact LeL.fr rfl|refine .tupL ?_|refine .aggL ?_|refine⟨?_,?_⟩)) (by simp))
def few26P (r:Route):Bool:=r.attrs.path.all fun p=>decide (p.ns.length≤40)
def few26R (r:Route):Bool:=decide (r.attrs.path.length≤20)&& decide (r.attrs.tags.length≤40)&& few26P r
def few26S (l:List Route) (most:Int):Bool:=l.all few26R && decide ((l.length:Int)≤most)
theorem few26S_false {l:List Route} {most:Int} {i:Nat} (h:i < l.length) (hx:few26R l[i]=false):few26S l most=false:=by
 rw[few26S,Bool.and_eq_false_iff]
 left
 cases hh:l.all few26R with
 | false=>rfl
 | true=>rw[List.all_eq_true.1 hh _ (List.getElem_mem h)]at hx;cases hx
theorem few26R_3 {r:Route} {k:Nat} (hk:k < r.attrs.path.length) (h:¬ r.attrs.path[k].ns.length≤40):few26R r=false:=by
 have:few26P r=false:=by
  cases hh:few26P r with
  | false=>rfl
  | true=>exact absurd (of_decide_eq_true (List.all_eq_true.1 hh _ (List.getElem_mem hk))) h
 simp[few26R,this]
theorem few26_small {r:Route} (h:few26R r=true):smallA r.attrs:=by
 simp only[few26R,few26P,Bool.and_eq_true,decide_eq_true_eq,List.all_eq_true]at h
 exact⟨by omega,fun p hp=>by have:=h.2 p hp;omega,by omega⟩
theorem few26S_out {l:List Route} {most:Int} (h:few26S l most=true):(∀r∈l,smallA r.attrs)∧(l.length:Int)≤most:=by
 simp only[few26S,Bool.and_eq_true,decide_eq_true_eq,List.all_eq_true]at h
 exact⟨fun r hr=>few26_small (h.1 r hr),h.2⟩
theorem few26_ok (l:List Route) (most:Int):PCon prog 9 [encRts l,.int .i64 most] (.bool (few26S l most)):=by
 refine callV_of (fn:=Go.Proofs.Tryz.f9) (body:=_) tab_ok mixed rfl rfl (by decide) (by simp[Go.Proofs.Tryz.f9]) ?_
 conv=>whnf
 refine vcg_loop tab_ok mixed (fun i:{i:Nat // i≤l.length∧∀j,(h:j < l.length)→j < i→few26R l[j]=true}=>⟨[(0,encRts l),(1,.int .i64 most),(5,cI i.1)],[],0⟩) (fun i=>l.length - i.1) ⟨0,by omega,fun j _ h=>by omega⟩ (Wk.i (by repeat' (first|exact LHa|exact .int_of (by simp)|exact .A|exact LeL.fr rfl|exact LHb|refine Or.inl ⟨by simp,_,rfl,?_⟩|exact Or.inr ⟨by simp,_,_,_,_,rfl⟩|refine⟨rfl,rfl,rfl,rfl,rfl,rfl,?_⟩|refine⟨?_,?_⟩)) (by omega)) (fun i=>?_)
 obtain⟨i,hi,hz⟩:=i
 conv=>whnf
 intro hgl
 have hgl:l.length≤maxLen:=by simpa[gd]using hgl
 conv=>whnf
 split
 ·rename_i hc
  have hc:i < l.length:=by simpa using hc
  conv=>whnf
  refine ixK (idxRt hc) ?_
  conv=>whnf
  intro _
  conv=>whnf
  split
  ·rename_i hh
   conv=>whnf
   exact(Ends.pure [] (by repeat' (first|exact True.intro|exact .bool_of (few26S_false hc (by simp[few26R];intro h;simp at hh;omega)).symm|exact .A|exact LeL.fr rfl|refine .tupL ?_|refine .aggL ?_|refine⟨?_,?_⟩)) (by simp))
  rename_i h1
  conv=>whnf
  refine ixK (idxRt hc) ?_
  conv=>whnf
  intro _
  conv=>whnf
  split
  ·rename_i hh
   conv=>whnf
   exact(Ends.pure [] (by repeat' (first|exact True.intro|exact .bool_of (few26S_false hc (by simp[few26R];intro _ h;simp at hh;omega)).symm|exact .A|exact LeL.fr rfl|refine .tupL ?_|refine .aggL ?_|refine⟨?_,?_⟩)) (by simp))
  rename_i h2
  have hU:(decide (l[i].attrs.path.length≤20)&& decide (l[i].attrs.tags.length≤40))=true:=by
   simp at h1 h2 ⊢
   omega
  conv=>whnf
  refine vcg_loop tab_ok mixed (fun k:{k:Nat // k≤l[i].attrs.path.length∧∀j,(h:j < l[i].attrs.path.length)→j < k→l[i].attrs.path[j].ns.length≤40}=>⟨[(0,encRts l),(1,.int .i64 most),(5,cI i),(6,cI k.1)],[],0⟩) (fun k=>l[i].attrs.path.length - k.1) ⟨0,by omega,fun j _ h=>by omega⟩ (Wk.i (by repeat' (first|exact LHa|exact .int_of (by simp)|exact .A|exact LeL.fr rfl|exact LHb|refine Or.inl ⟨by simp,_,rfl,?_⟩|exact Or.inr ⟨by simp,_,_,_,_,rfl⟩|refine⟨rfl,rfl,rfl,rfl,rfl,rfl,?_⟩|refine⟨?_,?_⟩)) (by omega)) (fun k=>?_)
  obtain⟨k,hk,hzk⟩:=k
  conv=>whnf
  refine ixK (idxRt hc) ?_
  conv=>whnf
  intro hgk
  have hgk:l[i].attrs.path.length≤maxLen:=by simpa[gd]using hgk
  conv=>whnf
  split
  ·rename_i hck
   have hck:k < l[i].attrs.path.length:=by simpa using hck
   conv=>whnf
   refine ixK (idxRt hc) ?_
   conv=>whnf
   refine ixK (idxL hck) ?_
   conv=>whnf
   intro _
   conv=>whnf
   split
   ·rename_i hh
    conv=>whnf
    exact(Ends.pure [] (by repeat' (first|exact True.intro|exact .bool_of (few26S_false hc (few26R_3 hck (by intro h;simp at hh;omega))).symm|exact .A|exact LeL.fr rfl|refine .tupL ?_|refine .aggL ?_|refine⟨?_,?_⟩)) (by simp))
   ·rename_i hh
    conv=>whnf
    exact⟨⟨k + 1,by omega,fun j hj hlt=>by
     rcases Nat.lt_or_ge j k with h|h
     ·exact hzk j hj h
     ·obtain rfl:j=k:=by omega
      simp at hh;omega⟩,(Wk.i (by repeat' (first|exact LHa|exact .int_of (wrap64_succ hck hgk)|exact .A|exact LeL.fr rfl|exact LHb|refine Or.inl ⟨by simp,_,rfl,?_⟩|exact Or.inr ⟨by simp,_,_,_,_,rfl⟩|refine⟨rfl,rfl,rfl,rfl,rfl,rfl,?_⟩|refine⟨?_,?_⟩)) (by omega)),by simp only;omega⟩
  rename_i hck
  have hck:k=l[i].attrs.path.length:=by simp at hck;omega
  have hX:few26R l[i]=true:=by
   rw[few26R,hU,few26P,List.all_eq_true.2 (fun x hx=>by obtain⟨j,hj,rfl⟩:=List.getElem_of_mem hx;exact decide_eq_true (hzk j hj (by omega)))]
   rfl
  conv=>whnf
  exact⟨⟨i + 1,by omega,fun j hj hlt=>by
   rcases Nat.lt_or_ge j i with h|h
   ·exact hz j hj h
   ·obtain rfl:j=i:=by omega
    exact hX⟩,(Wk.i (by repeat' (first|exact LHa|exact .int_of (wrap64_succ hc hgl)|exact .A|exact LeL.fr rfl|exact LHb|refine Or.inl ⟨by simp,_,rfl,?_⟩|exact Or.inr ⟨by simp,_,_,_,_,rfl⟩|refine⟨rfl,rfl,rfl,rfl,rfl,rfl,?_⟩|refine⟨?_,?_⟩)) (by omega)),by simp only;omega⟩
 rename_i hc
 have hc:i=l.length:=by simp at hc;omega
 subst hc
 conv=>whnf
 intro _
 conv=>whnf
 exact(Ends.pure [] (by repeat' (first|exact True.intro|exact .bool_of (by rw[few26S,List.all_eq_true.2 (fun x hx=>by obtain⟨j,hj,rfl⟩:=List.getElem_of_mem hx;exact hz j hj hj)];simp)|exact .A|exact LeL.fr rfl|refine .tupL ?_|refine .aggL ?_|refine⟨?_,?_⟩)) (by simp))
end
section
open Go.Proofs.Tryz (prog)
def sf1:SelfL:=⟨1,1,9⟩
def a5:Attrs:={ noA with next:=5 }
def aW:Attrs:={ noA with path:=[⟨false,[1]⟩],next:=9 }
def rtW:Route:=⟨ten24,a5,noPe⟩
def rtD:Route:=⟨ten24,a5,pe2⟩
def mW:List (Prefix × Attrs):=[(ten24,aW)]
theorem ckW:checkU ⟨[],[ten24],aW⟩=0:=by
 have hm:mayU ⟨[],[ten24],aW⟩=true:=by
  simp only[mayU,rise0_24,rise1_24 (show prefOk ten24=true by decide),apartP,saidU]
  decide
 rw[checkU,if_pos hm,if_neg (by decide)]
theorem sayO_bind (s:SelfL) (pe:Peer) (pol:Policy) (r:Route):sayO s pe pol r=(sayK s pe pol r 6).bind fun a=>if checkU ⟨[],[r.pfx],a⟩=0 then some a else none:=rfl
theorem sayW:sayO sf1 pe2 polE rtW=some aW:=by
 have h6:sayK sf1 pe2 polE rtW 6=some aW:=by decide
 rw[sayO_bind,h6]
 show(if checkU ⟨[],[ten24],aW⟩=0 then some aW else none)=some aW
 rw[if_pos ckW]
theorem sayD:sayO sf1 pe2 polE rtD=none:=by
 have h6:sayK sf1 pe2 polE rtD 6=none:=by decide
 rw[sayO_bind,h6];rfl
theorem nowW:nowL sf1 pe2 polE [rtW]=mW:=by simp only[nowL,List.filterMap_cons,List.filterMap_nil,sayW];rfl
theorem nowD:nowL sf1 pe2 polE [rtD]=[]:=by simp only[nowL,List.filterMap_cons,List.filterMap_nil,sayD];rfl
theorem sort1 (p:Prefix):sortPs [p]=[p]:=sortPs_self (by simp)
theorem sort0:sortPs []=[]:=sortPs_self (by simp)
theorem keysW:sortPs (keysE mW)=[ten24]:=sort1 ten24
theorem upd_a:updP [] mW=[⟨[],[ten24],aW⟩]:=by
 unfold updP
 rw[keysW,show keysE ([]:List (Prefix × Attrs))=[]from rfl,sort0]
 decide
theorem upd_b:updP mW mW=[]:=by
 unfold updP
 rw[keysW]
 decide
theorem upd_c:updP mW []=[⟨[ten24],[],noA⟩]:=by
 unfold updP
 rw[keysW,show keysE ([]:List (Prefix × Attrs))=[]from rfl,sort0]
 decide
theorem upd_d:updP [] []=[]:=by
 unfold updP
 rw[show keysE ([]:List (Prefix × Attrs))=[]from rfl,sort0]
 decide
theorem a5_small:smallA a5:=⟨by decide,by decide,by decide⟩
theorem okW:okT [rtW]=true:=by decide
theorem okD:okT [rtD]=true:=by decide
theorem okWW:okT [rtW,rtW]=false:=by decide
end
end Go.Proofs.YteogfjpaljbkoaaGreat
