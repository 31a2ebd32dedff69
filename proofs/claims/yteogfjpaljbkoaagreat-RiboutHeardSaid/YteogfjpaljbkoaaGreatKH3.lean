/- Joined: VW, VT, VX, VY, VZ, VZ1, VZ2, VZ3, VZ5, VZ6, VZ7, VZ8, VZ9, VZA, VZB, VZC, VZD, VS, Sh2, C0, C1, C2, C3, C4, C5, C6, C7, C8, C9, C10, C11, C12, C13, C14, D1, C16, C17, C18. -/
import Derived.Test.YteogfjpaljbkoaaGreatKH2
import Derived.Test.YteogfjpaljbkoaaGreatKH1
import Derived.DeepKeys4
import Derived.RowKit
import Derived.ChangeSame
import Derived.WideKeyArgs
import Derived.JoinedOf
import Derived.KernelRfl
import Derived.Lib.Overlaps
import Derived.Sort.Grow
import Derived.Deep.Draws
import Derived.Test.YteogfjpaljbkoaaGreatProg
import Derived.Shelf.Small.Bits
import Derived.Shelf.Strconv.Itoa0
import Derived.Shelf.Bits.Mul64
import Derived.Ground.SlgnProg
import Derived.Shelf.SlicesE.Reverse
import Derived.Shelf.SlicesE.Clone
import Derived.Shelf.SlSortCmp.NoneTotal
import Derived.Shelf.SlGeneric
import Derived.Ground.SlsfProg
import Derived.Shelf.SlMaps.Clone
import Derived.Ground.SlmcProg
import Derived.Laws.BitsLemmas
set_option linter.unusedVariables false
set_option linter.unusedSimpArgs false
set_option maxRecDepth 100000
set_option maxHeartbeats 16000000
namespace Go.Proofs.YteogfjpaljbkoaaGreat
open Go.RowKit
def OCon (P:Program) (f:FuncId) (args:List V) (fr ex:Bool) (ty:TypeId) (sz n:Nat) (rows:List (List V)):Prop:=
 CallV P f args [] 0 (fun v h' nx'=>v=.osl 0 sz 0 n∧h'=[(0,some (.arr fr ex ty sz rows))]∧nx'=1)
theorem callV_own {P:Program} {f:FuncId} {args args0:List V} {h:Heap} {nx n sz:Nat} {fr ex:Bool} {ty:TypeId} {rows:List (List V)} {K:V→Heap→Nat→Prop} (Z:List Nat) (hc:OCon P f args0 fr ex ty sz n rows)
  (ha:LeL h nx id 0 Z args args0) (hcold:∀v∈args0,Cold v) (hz:∀z∈Z,hget h z ≠ none) (hrows:∀x∈rows,∀v∈x,Free v∧Fresh v)
  (hK:K (.osl nx sz 0 n) ((nx,some (.arr fr ex ty sz rows)) :: h) (nx + 1)):CallV P f args h nx K:=by
 refine⟨hc.1,fun G w us hr hv=>?_⟩
 have hl:LeH 0 h nx id 0 Z []:=⟨fun b blk hb=>by simp[hget]at hb,fun b b' hb=>by simp[hget]at hb,fun b hb=>by omega,Nat.le_refl _,hz⟩
 obtain⟨hr0,_⟩:=hl.ok hr
 have hr0':HR ⟨(G.to id 0 Z).ι,(G.to id 0 Z).amb,w.heap.size⟩ [] 0 w:=⟨hr0.amb_lt,Nat.le_refl _,hr0.dom,fun b blk hb=>by simp[hget]at hb,fun b b' k k' c hb=>by simp[hget]at hb,fun b k c hb=>by simp[hget]at hb,hr0.lt,fun b k hb=>by simp[hget]at hb,hr0.gl.to (fun _ h=>h) (fun _ _=>rfl)⟩
 have hva:vrs ⟨(G.to id 0 Z).ι,(G.to id 0 Z).amb,w.heap.size⟩ w args0 us:=by
  have:=ha.vrs hr hv
  exact⟨this.1,fun j v u hj hu=>hcold v (List.mem_of_getElem? hj) _ _ _ _ _ (fun a u hi=>⟨hi.1,hi.2.1,(fun h=>by cases h),hi.2.2.2⟩) (this.2 j v u hj hu)⟩
 refine(hc.2 _ w us hr0' hva).mono ?_
 rintro e w' ⟨u,v,h',nx',G1,rfl,⟨rfl,rfl,rfl⟩,hv1,hr1,E,_⟩
 have hn0:∀b,(G.to id 0 Z).ι b=none:=fun b=>by simp[Gh.to]
 have hB:G1.B=w.heap.size:=E.B
 have hnew:∀b c,G1.ι b=some c→w.heap.size≤c:=by
  intro b c hb
  rcases Nat.lt_or_ge c w.heap.size with h1|h1
  ·obtain⟨b',hb'⟩:=E.idn b c hb h1
   rw[show(Gh.mk (G.to id 0 Z).ι (G.to id 0 Z).amb w.heap.size).ι b'=none from hn0 b']at hb';cases hb'
  ·exact h1
 have hi:G.ι nx=none:=hr.dom nx (Nat.le_refl _)
 let G':Gh:=⟨fun b=>if b=nx then G1.ι 0 else G.ι b,fun c=>G.amb c∨(G1.amb c∧w.heap.size≤c),G.B⟩
 have hιn:G'.ι nx=G1.ι 0:=by simp[G']
 have hιo:∀b,b ≠ nx→G'.ι b=G.ι b:=fun b hb=>by simp[G',hb]
 have he:EvoA G w G' w':=fun base=>⟨E.os,E.tape,E.output,E.size,rfl,fun c hc=>.inl hc,fun c hc=>E.keep c (.inl hc),E.csz,fun b c _ hc=>by
   by_cases e:b=nx
   ·subst e;rw[hi]at hc;cases hc
   ·rw[hιo b e];exact hc,fun c hc _=>E.keepu c hc (fun b=>by simp[hn0]),
  fun c hc hlt=>.inl (hc.resolve_right (fun h=>by omega)),fun b c hc hlt=>by
   by_cases e:b=nx
   ·subst e;rw[hιn]at hc;have:=hnew 0 c hc;omega
   ·rw[hιo b e]at hc;exact⟨b,hc⟩⟩
 have toG:∀{v:V} {u:Value},Free v∧Fresh v→vr G1 w' v u→vr G' w' v u:=fun hf hv=>by
  refine hf.1 _ _ _ _ _ (hf.2 _ _ _ (imm G' w') _ (fun a u hi=>?_) hv)
  have h3:=hi.2.2.1 rfl
  rw[hB]at h3
  exact⟨hi.1,.inr ⟨hi.2.1,h3.1⟩,fun _=>⟨Nat.le_trans hr.B_le h3.1,h3.2⟩,hi.2.2.2⟩
 refine⟨u,_,_,nx + 1,G',rfl,hK,?_,⟨fun c hc=>?_,Nat.le_trans hr.B_le E.size,fun b hb=>?_,fun b blk hb=>?_,fun b1 b2 k1 k2 c h1 h2 h3 h4=>?_,fun b blk c hb hc ha=>?_,fun b c hc=>?_,fun b blk hb=>?_,hr.gl.evo (he 0)⟩,he nx,Nat.le_succ _⟩
 ·cases hv1 with
  | osl _ _ _ _ c cap m hc hz he h1 h2=>
   exact .osl _ _ _ _ c cap m (by rw[hιn];exact hc) hz he h1 h2
  | oslz _ _ _ A=>exact .oslz _ _ _ A
 ·rcases hc with hc|hc
  ·exact Nat.lt_of_lt_of_le (hr.amb_lt c hc) E.size
  ·exact hr1.amb_lt c hc.1
 ·rw[hιo b (by omega)];exact hr.dom b (by omega)
 ·rw[hget_cons]at hb
  split at hb
  ·rename_i e
   subst e;cases hb
   obtain⟨q1,q2⟩:BlkOk G1 w' 0 (.arr fr ex ty sz rows):=hr1.own 0 _ (by simp[hget])
   refine⟨q1,?_⟩
   rcases q2 with⟨q2,q3⟩|⟨c,cs,e1,e2,e3,e4,e5,e6,e7⟩
   ·exact .inl ⟨by rw[hιn];exact q2,q3⟩
   ·refine .inr ⟨c,cs,by rw[hιn];exact e1,e2,e3,e4,fun hf=>Nat.le_trans hr.B_le (hnew 0 c e1),fun j v hj=>?_,e7⟩
    obtain⟨u,hu,h1,hvr⟩:=e6 j v hj
    obtain⟨x,hx,hvx⟩:=List.mem_flatten.1 (List.mem_of_getElem? hj)
    exact⟨u,hu,h1,toG (hrows x hx v hvx) hvr⟩
  ·rename_i e
   exact(hr.own b blk hb).keep he (fun c hc=>E.keepu c (hr.lt b c hc) (fun b=>by simp[hn0])) (fun hn=>by rw[hιo b (Ne.symm e)];exact hn)
 ·rw[hget_cons]at h1 h2
  by_cases e1:b1=nx<;>by_cases e2:b2=nx
  ·omega
  ·subst e1
   rw[hιn]at h3;rw[hιo b2 e2]at h4
   have:=hnew 0 c h3
   have:=hr.lt b2 c h4
   omega
  ·subst e2
   rw[hιn]at h4;rw[hιo b1 e1]at h3
   have:=hnew 0 c h4
   have:=hr.lt b1 c h3
   omega
  ·rw[if_neg (Ne.symm e1)]at h1;rw[if_neg (Ne.symm e2)]at h2
   rw[hιo b1 e1]at h3;rw[hιo b2 e2]at h4
   exact hr.inj b1 b2 k1 k2 c h1 h2 h3 h4
 ·by_cases e:b=nx
  ·subst e
   rw[hιn]at hc
   have hge:=hnew 0 c hc
   rcases ha with ha|ha
   ·have:=hr.amb_lt c ha;omega
   ·exact hr1.apart 0 (.arr fr ex ty sz rows) c (by simp[hget]) hc ha.1
  ·rw[hιo b e]at hc
   rw[hget_cons,if_neg (Ne.symm e)]at hb
   have:=hr.lt b c hc
   rcases ha with ha|ha
   ·exact hr.apart b blk c hb hc ha
   ·omega
 ·by_cases e:b=nx
  ·subst e;rw[hιn]at hc;exact hr1.lt 0 c hc
  ·rw[hιo b e]at hc;exact Nat.lt_of_lt_of_le (hr.lt b c hc) E.size
 ·rw[hget_cons]at hb
  split at hb
  ·omega
  ·have:=hr.hdom b blk hb;omega
theorem newV_own {P:Program} {f:FuncId} {args args0:List V} {h:Heap} {nx b0 n sz:Nat} {fr ex:Bool} {ty:TypeId} {rows:List (List V)} (Z:List Nat) (hc:OCon P f args0 fr ex ty sz n rows)
  (ha:LeL h nx id 0 Z args args0) (hcold:∀v∈args0,Cold v) (hz:∀z∈Z,hget h z ≠ none) (hrows:∀x∈rows,∀v∈x,Free v∧Fresh v):NewV P f args (.osl b0 sz 0 n) (.arr fr ex ty sz rows) b0 h nx:=by
 refine⟨hc.1,fun G w us hr hv hi hg0=>?_⟩
 have hl:LeH 0 h nx id 0 Z []:=⟨fun b blk hb=>by simp[hget]at hb,fun b b' hb=>by simp[hget]at hb,fun b hb=>by omega,Nat.le_refl _,hz⟩
 obtain⟨hr0,_⟩:=hl.ok hr
 have hr0':HR ⟨(G.to id 0 Z).ι,(G.to id 0 Z).amb,w.heap.size⟩ [] 0 w:=⟨hr0.amb_lt,Nat.le_refl _,hr0.dom,fun b blk hb=>by simp[hget]at hb,fun b b' k k' c hb=>by simp[hget]at hb,fun b k c hb=>by simp[hget]at hb,hr0.lt,fun b k hb=>by simp[hget]at hb,hr0.gl.to (fun _ h=>h) (fun _ _=>rfl)⟩
 have hva:vrs ⟨(G.to id 0 Z).ι,(G.to id 0 Z).amb,w.heap.size⟩ w args0 us:=by
  have:=ha.vrs hr hv
  exact⟨this.1,fun j v u hj hu=>hcold v (List.mem_of_getElem? hj) _ _ _ _ _ (fun a u hi=>⟨hi.1,hi.2.1,(fun h=>by cases h),hi.2.2.2⟩) (this.2 j v u hj hu)⟩
 refine(hc.2 _ w us hr0' hva).mono ?_
 rintro e w' ⟨u,v,h',nx',G1,rfl,⟨rfl,rfl,rfl⟩,hv1,hr1,E,_⟩
 have hn0:∀b,(G.to id 0 Z).ι b=none:=fun b=>by simp[Gh.to]
 have hB:G1.B=w.heap.size:=E.B
 have hnew:∀b c,G1.ι b=some c→w.heap.size≤c:=by
  intro b c hb
  rcases Nat.lt_or_ge c w.heap.size with h1|h1
  ·obtain⟨b',hb'⟩:=E.idn b c hb h1
   rw[show(Gh.mk (G.to id 0 Z).ι (G.to id 0 Z).amb w.heap.size).ι b'=none from hn0 b']at hb';cases hb'
  ·exact h1
 let G':Gh:=⟨fun b=>if b=b0 then G1.ι 0 else G.ι b,fun c=>G.amb c∨(G1.amb c∧w.heap.size≤c),G.B⟩
 have hιn:G'.ι b0=G1.ι 0:=by simp[G']
 have hιo:∀b,b ≠ b0→G'.ι b=G.ι b:=fun b hb=>by simp[G',hb]
 have he:EvoA G w G' w':=fun base=>⟨E.os,E.tape,E.output,E.size,rfl,fun c hc=>.inl hc,fun c hc=>E.keep c (.inl hc),E.csz,fun b c _ hc=>by
   by_cases e:b=b0
   ·subst e;rw[hi]at hc;cases hc
   ·rw[hιo b e];exact hc,fun c hc _=>E.keepu c hc (fun b=>by simp[hn0]),
  fun c hc hlt=>.inl (hc.resolve_right (fun h=>by omega)),fun b c hc hlt=>by
   by_cases e:b=b0
   ·subst e;rw[hιn]at hc;have:=hnew 0 c hc;omega
   ·rw[hιo b e]at hc;exact⟨b,hc⟩⟩
 have toG:∀{v:V} {u:Value},Free v∧Fresh v→vr G1 w' v u→vr G' w' v u:=fun hf hv=>by
  refine hf.1 _ _ _ _ _ (hf.2 _ _ _ (imm G' w') _ (fun a u hi=>?_) hv)
  have h3:=hi.2.2.1 rfl
  rw[hB]at h3
  exact⟨hi.1,.inr ⟨hi.2.1,h3.1⟩,fun _=>⟨Nat.le_trans hr.B_le h3.1,h3.2⟩,hi.2.2.2⟩
 refine⟨u,G',rfl,?_,⟨fun c hc=>?_,Nat.le_trans hr.B_le E.size,fun b hb=>?_,fun b blk hb=>?_,fun b1 b2 k1 k2 c h1 h2 h3 h4=>?_,fun b blk c hb hc ha=>?_,fun b c hc=>?_,fun b blk hb=>?_,hr.gl.evo (he 0)⟩,he,hιo⟩
 ·cases hv1 with
  | osl _ _ _ _ c cap m hc hz he h1 h2=>
   exact .osl _ _ _ _ c cap m (by rw[hιn];exact hc) hz he h1 h2
  | oslz _ _ _ A=>exact .oslz _ _ _ A
 ·rcases hc with hc|hc
  ·exact Nat.lt_of_lt_of_le (hr.amb_lt c hc) E.size
  ·exact hr1.amb_lt c hc.1
 ·rw[hιo b (by omega)];exact hr.dom b (by omega)
 ·rw[hget_cons]at hb
  split at hb
  ·rename_i e
   subst e;cases hb
   obtain⟨q1,q2⟩:BlkOk G1 w' 0 (.arr fr ex ty sz rows):=hr1.own 0 _ (by simp[hget])
   refine⟨q1,?_⟩
   rcases q2 with⟨q2,q3⟩|⟨c,cs,e1,e2,e3,e4,e5,e6,e7⟩
   ·exact .inl ⟨by rw[hιn];exact q2,q3⟩
   ·refine .inr ⟨c,cs,by rw[hιn];exact e1,e2,e3,e4,fun hf=>Nat.le_trans hr.B_le (hnew 0 c e1),fun j v hj=>?_,e7⟩
    obtain⟨u,hu,h1,hvr⟩:=e6 j v hj
    obtain⟨x,hx,hvx⟩:=List.mem_flatten.1 (List.mem_of_getElem? hj)
    exact⟨u,hu,h1,toG (hrows x hx v hvx) hvr⟩
  ·rename_i e
   exact(hr.own b blk hb).keep he (fun c hc=>E.keepu c (hr.lt b c hc) (fun b=>by simp[hn0])) (fun hn=>by rw[hιo b (Ne.symm e)];exact hn)
 ·rw[hget_cons]at h1 h2
  by_cases e1:b1=b0<;>by_cases e2:b2=b0
  ·omega
  ·subst e1
   rw[hιn]at h3;rw[hιo b2 e2]at h4
   have:=hnew 0 c h3
   have:=hr.lt b2 c h4
   omega
  ·subst e2
   rw[hιn]at h4;rw[hιo b1 e1]at h3
   have:=hnew 0 c h4
   have:=hr.lt b1 c h3
   omega
  ·rw[if_neg (Ne.symm e1)]at h1;rw[if_neg (Ne.symm e2)]at h2
   rw[hιo b1 e1]at h3;rw[hιo b2 e2]at h4
   exact hr.inj b1 b2 k1 k2 c h1 h2 h3 h4
 ·by_cases e:b=b0
  ·subst e
   rw[hιn]at hc
   have hge:=hnew 0 c hc
   rcases ha with ha|ha
   ·have:=hr.amb_lt c ha;omega
   ·exact hr1.apart 0 (.arr fr ex ty sz rows) c (by simp[hget]) hc ha.1
  ·rw[hιo b e]at hc
   rw[hget_cons,if_neg (Ne.symm e)]at hb
   have:=hr.lt b c hc
   rcases ha with ha|ha
   ·exact hr.apart b blk c hb hc ha
   ·omega
 ·by_cases e:b=b0
  ·subst e;rw[hιn]at hc;exact hr1.lt 0 c hc
  ·rw[hιo b e]at hc;exact Nat.lt_of_lt_of_le (hr.lt b c hc) E.size
 ·rw[hget_cons]at hb
  split at hb
  ·omega
  ·have:=hr.hdom b blk hb;omega
theorem Ends.own {s:St} {b sz n:Nat} {fr ex:Bool} {ty:TypeId} {rows:List (List V)} (hb:hget s.h b=some (.arr fr ex ty sz rows)) (hf:∀x∈rows,∀v∈x,Free v) {n':Nat} {rows':List (List V)} (hn:n=n') (hr:rows=rows') :
  ∃v1 h' nx',Ends 0 s (.osl b sz 0 n) v1 h' nx'∧(v1=.osl 0 sz 0 n'∧h'=[(0,some (.arr fr ex ty sz rows'))]∧nx'=1):=by
 subst hn;subst hr
 exact⟨.osl 0 sz 0 n,[(0,some (.arr fr ex ty sz rows))],1,Ends.of (fun _=>b) [] (.osl rfl (by omega)) (LeH.of ⟨⟨by omega,.inl ⟨by simp,_,hb,.arr hf⟩⟩,trivial⟩ (by simp) (fun b hb=>by omega) (by omega) (by simp)),rfl,rfl,rfl⟩
theorem callV_freeze {P:Program} {f:FuncId} {args args':List V} {h h':Heap} {nx:Nat} {K:V→Heap→Nat→Prop} (Z:List Nat) (hl:LeH nx h nx id nx Z h') (ha:LeL h nx id nx Z args args') (hc:CallV P f args' h' nx K):CallV P f args h nx K:=
 ⟨hc.1,fun G w us hr hv=>by
  obtain⟨hr',he⟩:=hl.ok hr
  refine(hc.2 _ w us hr' (ha.vrs hr hv)).mono ?_
  rintro e w' ⟨u,v,h1,nx1,G1,rfl,hK,hv1,hr1,E,hle⟩
  exact⟨u,v,h1,nx1,G1,rfl,hK,hv1,hr1,he.trans E,hle⟩⟩
theorem ixK {i:Int} {l:List (List V)} {c:List V} {K:List V→Prop} {sz:Nat} (hi:l[i.toNat]? = some c) (hK:K c) (h0:0≤i:=by first|omega|(simp only;omega)):sz=sz∧∃c,gd none (0≤i∧l[i.toNat]? = some c)∧K c:=⟨rfl,c,⟨h0,hi⟩,hK⟩
def kOf:TypeDesc→TK
 | .int k=>.int k
 | .bool=>.bool
 | .string=>.str
 | .slice e=>.slice e
 | .pointer e=>.ptr e
 | .struct fields=>.struct (fields.toList.map fun f=>(f.offset,f.type))
 | .array n e=>.array n e
 | .func ..=>.func
 | .interface ..=>.iface
 | .map k e=>.map k e
 | .tuple ..=>.tuple
 | _=>.other
def tiOf (P:Program) (t:TypeId):TI:=
 match P.info? t with
 | some i=>match i.zero,P.underlying t with
  | some z,some d=>match Nat.beq z.cells.toList.length i.size && (zAgg z == isAgg (kOf d))with
   | true=>⟨kOf d,i.size,i.bytes,z.cells.toList,P.keyTypeAt 60 t && !P.eqGuardType P.depth t,P.keyTypeAt 60 t && P.tiled 60 t && P.keyType t && Nat.ble 60 (P.types.size + 1)⟩
   | false=>default
  | _,_=>default
 | none=>default
theorem kOf_ok (d:TypeDesc):kOf d=.other∨DescOk (kOf d) d:=by
 cases d<;>simp[kOf,DescOk]
theorem tiOf_ok (P:Program) (t:TypeId):(∃i z,P.info? t=some i∧i.size=(tiOf P t).size∧i.bytes=(tiOf P t).bytes∧i.zero=some z∧z.cells.toList=(tiOf P t).zero∧∃d,P.underlying t=some d∧DescOk (tiOf P t).k d∧(tiOf P t).zero.length=(tiOf P t).size∧zAgg z=isAgg (tiOf P t).k)∨(tiOf P t).k=.other:=by
 unfold tiOf
 split
 ·rename_i i hi
  split
  ·rename_i z d hz hd
   split
   ·rename_i hl
    rcases kOf_ok d with h|h
    ·exact .inr h
    ·simp only[Bool.and_eq_true,beq_iff_eq]at hl
     exact .inl ⟨i,z,hi,rfl,rfl,hz,rfl,d,hd,h,Nat.eq_of_beq_eq_true hl.1,hl.2⟩
   ·exact .inr rfl
  ·exact .inr rfl
 ·exact .inr rfl
theorem tiOf_key (P:Program) (t:TypeId) (h:(tiOf P t).key=true):P.keyTypeAt 60 t=true∧P.eqGuardType P.depth t=false:=by
 unfold tiOf at h
 split at h
 ·split at h
  ·split at h
   ·simpa using h
   ·cases h
  ·cases h
 ·cases h
theorem tiOf_mkey (P:Program) (t:TypeId) (h:(tiOf P t).mkey=true):P.keyTypeAt 60 t=true∧P.tiled 60 t=true∧P.keyType t=true∧60≤P.types.size + 1:=by
 unfold tiOf at h
 split at h
 ·split at h
  ·split at h
   ·simp only[Bool.and_eq_true,Nat.ble_eq]at h
    exact⟨h.1.1.1,h.1.1.2,h.1.2,h.2⟩
   ·cases h
  ·cases h
 ·cases h
theorem nth_of_ge {α:Type} (d:α):∀(l:List α) (i:Nat),l.length≤i→nth d l i=d
 | [],_,_=>rfl
 | x :: l,0,h=>by simp at h
 | x :: l,i + 1,h=>by simp at h;exact nth_of_ge d l i h
theorem nth_of_lt {α:Type} (d:α):∀(l:List α) (i:Nat) (h:i < l.length),nth d l i=l[i]
 | [],_,h=>by simp at h
 | x :: l,0,h=>rfl
 | x :: l,i + 1,h=>by simp at h;simpa[nth]using nth_of_lt d l i h
theorem tabOk_of (P:Program) (l:List TI) (n:Nat) (h:(List.range n).map (tiOf P)=l):TabOk P (tabOf l):=by
 have hl:l.length=n:=by rw[← h];simp
 have hlt:∀t,t < n→tabOf l t=tiOf P t:=fun t ht=>by
  unfold tabOf
  rw[nth_of_lt _ _ _ (by omega)]
  simp[← h]
 have hge:∀t,n≤t→tabOf l t=default:=fun t ht=>by
  unfold tabOf
  rw[nth_of_ge _ _ _ (by omega)]
 refine⟨fun t=>?_,fun t=>?_,fun t=>?_⟩<;>rcases Nat.lt_or_ge t n with ht|ht
 ·rw[hlt t ht]
  exact tiOf_ok P t
 ·rw[hge t ht]
  exact .inr rfl
 ·rw[hlt t ht]
  exact tiOf_key P t
 ·rw[hge t ht]
  intro h
  cases h
 ·rw[hlt t ht]
  exact tiOf_mkey P t
 ·rw[hge t ht]
  intro h
  cases h
section
open Go.ChangeShapes Go.WideShapes
def G0 (w:World):Gh:=⟨fun _=>none,fun c=>c < w.heap.size,w.heap.size⟩
theorem hr0 (w:World) (hgl:GlOk (G0 w) w):HR (G0 w) [] 0 w:=
 ⟨fun c hc=>hc,Nat.le_refl _,fun _ _=>rfl,fun b k hb=>by simp[hget]at hb,fun b b' k k' c hb=>by simp[hget]at hb,fun b k c hb=>by simp[hget]at hb,fun b c hb=>by simp[G0]at hb,fun b k hb=>by simp[hget]at hb,hgl⟩
theorem kept0 {G':Gh} {w w':World} (h:Evo 0 (G0 w) w G' w') (may:MemPlace→Prop):w.keptBut w' may:=by
 refine⟨h.os,h.output,fun i hi=>?_⟩
 rw[h.keep i hi]
 split
 ·rename_i e1 e2;cases e1.symm.trans e2;exact⟨rfl,rfl,rfl,fun _ _=>rfl⟩
 ·rename_i e1 e2;cases e1.symm.trans e2;exact .inr ⟨rfl,rfl⟩
 ·rfl
theorem same0 {G':Gh} {w w':World} (h:Evo 0 (G0 w) w G' w') {p:MemPlace} (hp:p.block < w.heap.size):w.sameAt w' p:=by
 cases p with
 | cell b off=>exact World.cell?_of_block (h.keep b hp)
 | map b=>exact h.keep b hp
section
variable {H : Type} {enc : TypeId × Value → H} {P : Program}
theorem post_same {f:Func} {s:ChangeSpec} {apart fresh handsOn again:Bool} {W W':World} {args:Array Value} {v:Value} {ds gs:List (DataW H)} {before pa pv:List MemPlace}
  (hW:DataW.Whole enc P f.params.toList s.vars apart W args.toList ds gs before)
  (hres:∀(b:Nat) (sp:Nat→Bool) (hd:Bool),DataW.TrodAll enc P W' b sp hd f.resultTypes.toList (v.resultList f.resultTypes.size) (s.fn H (ds ++ gs)).results [])
  (hargs:∀sp:Nat→Bool,(∀p∈before,sp p.block=true)→DataW.TrodAll enc P W' 0 sp true f.params.toList args.toList (s.fn H (ds ++ gs)).args pa)
  (hvars:∀sp:Nat→Bool,(∀p∈before,sp p.block=true)→DataW.TrodVars enc P W' sp s.vars (s.fn H (ds ++ gs)).vars pv)
  (hps:before=pa ++ pv) (hk:W.keptBut W' (·∈before)) (hfz:∀b off,MemPlace.cell b off∈before→W'.frozen? ⟨b,off,none⟩=W.frozen? ⟨b,off,none⟩)
  (hok:∀(j:Nat) (t:TypeId) (r:Value),f.resultTypes[j]? = some t→(v.resultList f.resultTypes.size)[j]? = some r→Value.okWide P W' .any 0 t r) :
  s.post enc P f apart fresh handsOn again W args v W':=by
 have hold:∀p∈before,(fun b=>decide (b < W.heap.size)) p.block=true:=fun p hp=>by simpa using hW.lt p hp
 refine⟨ds,gs,before,[],pa,pv,hW,hres _ _ _,hargs _ hold,hvars _ hold,World.keptBut_mono (fun p hp=>⟨hp,?_⟩) hk,fun _=>?_⟩
 ·rw[hps,List.mem_append]at hp
  exact Or.inr hp
 ·obtain⟨_,_,_,_,_,hz,hn⟩:=hW
  refine⟨hok,_,_,([]++ pa)++ pv,⟨[]++ pa,pv,trodAll_append (hargs _ (fun _ _=>rfl)) (hres _ _ _),hvars _ (fun _ _=>rfl),rfl,?_,?_⟩,?_⟩
  ·intro b off hp
   have hb:MemPlace.cell b off∈before:=by rw[hps];simpa using hp
   rw[hfz b off hb]
   exact hz b off hb
  ·intro ha
   have:=hn ha
   rw[hps]at this
   simpa using this
  ·intro p hp _
   rw[hps]
   simpa using hp
theorem trodAll_same {W W':World} {sp:Nat→Bool} (hl:laidOutB P=true):∀{ts:List TypeId} {vs:List Value} {ds:List (DataW H)} {p:List MemPlace},(∀t∈ts,P.readableRec t=true∧t < P.types.size)→DataW.TrodAll enc P W 0 (fun _=>true) true ts vs ds p →
  (∀q∈p,W.sameAt W' q)→(∀q∈p,sp q.block=true)→DataW.TrodAll enc P W' 0 sp true ts vs ds p
 | [],vs,ds,p,_,h,_,_=>by
  obtain⟨rfl,rfl,rfl⟩:=trodAll_nil h
  exact trodAll_mk0
 | t :: ts,vs,ds,p,ht,h,h1,h2=>by
  obtain⟨v,vs',d,ds',p',q',rfl,rfl,rfl,h3,h4⟩:=trodAll_cons h
  exact⟨p',q',WideElems.Trod_stays hl (ht t (by simp)).1 (ht t (by simp)).2 h3 (fun q hq=>h1 q (by simp[hq])) (fun q hq=>h2 q (by simp[hq])),trodAll_same hl (fun t ht'=>ht t (by simp[ht'])) h4 (fun q hq=>h1 q (by simp[hq])) (fun q hq=>h2 q (by simp[hq])),rfl⟩
theorem trodAll_len {W:World} {b:Nat} {sp:Nat→Bool} {hd:Bool}:∀{ts:List TypeId} {vs:List Value} {ds:List (DataW H)} {p:List MemPlace},DataW.TrodAll enc P W b sp hd ts vs ds p→ds.length=ts.length
 | [],vs,ds,p,h=>by
  obtain⟨rfl,rfl,rfl⟩:=trodAll_nil h
  rfl
 | t :: ts,vs,ds,p,h=>by
  obtain⟨v,vs',d,ds',p',q',rfl,rfl,rfl,h3,h4⟩:=trodAll_cons h
  simp[trodAll_len h4]
end
def RepOk (P:Program) (t:TypeId) {α:Type} (cells:α→List V):Prop:=
 ∀{H:Type} (enc:TypeId × Value→H) (w:World) (sp:Nat→Bool) (fuel:Nat) (cs:List Value) (x:DataW H × List MemPlace),DataW.trod enc P w 0 sp true fuel t cs=some x →
  ∃a,vrs (G0 w) w (cells a) cs∧∀u∈cs,u.oneCell'=true
def ArgOk (P:Program) (t:TypeId) {α:Type} (val:α→V):Prop:=
 ∀{H:Type} (enc:TypeId × Value→H) (W:World) (base:Nat) (v:Value) (d:DataW H) (p:List MemPlace),Value.okWide P W .any base t v→DataW.Trod enc P W 0 (fun _=>true) true t v d p→∃a,vr (G0 W) W (val a) v
def ArgsOk (P:Program) (ts:List TypeId) {α:Type} (vals:α→List V):Prop:=
 ∀{H:Type} (enc:TypeId × Value→H) (W:World) (base:Nat) (vs:List Value) (ds:List (DataW H)) (p:List MemPlace),(∀(j:Nat) t v,ts[j]? = some t→vs[j]? = some v→Value.okWide P W .any base t v) →
  DataW.TrodAll enc P W 0 (fun _=>true) true ts vs ds p→∃a,vrs (G0 W) W (vals a) vs
theorem argsNil {P:Program}:ArgsOk P [] (fun _:Unit=>[]):=fun enc W base vs ds p _ h=>by
 obtain⟨rfl,rfl,rfl⟩:=trodAll_nil h
 exact⟨(),vrs.nil⟩
theorem vrs_cons {G:Gh} {w:World} {v:V} {vs:List V} {u:Value} {us:List Value} (h:vr G w v u) (h':vrs G w vs us):vrs G w (v :: vs) (u :: us):=
 ⟨by simp[h'.1],fun j v' u' h1 h2=>by
  cases j with
  | zero=>simp at h1 h2;subst h1;subst h2;exact h
  | succ j=>exact h'.2 j v' u' (by simpa using h1) (by simpa using h2)⟩
theorem argsCons {P:Program} {t:TypeId} {ts:List TypeId} {α β:Type} {val:α→V} {vals:β→List V} (h:ArgOk P t val) (hs:ArgsOk P ts vals):ArgsOk P (t :: ts) (fun x:α × β=>val x.1 :: vals x.2):=fun enc W base vs ds p hok hp=>by
 obtain⟨v,vs',d,ds',p',q',rfl,rfl,rfl,h3,h4⟩:=trodAll_cons hp
 obtain⟨a,ha⟩:=h enc W base v d p' (hok 0 t v rfl rfl) h3
 obtain⟨b,hb⟩:=hs enc W base vs' ds' q' (fun j t v h1 h2=>hok (j + 1) t v (by simpa using h1) (by simpa using h2)) h4
 exact⟨(a,b),vrs_cons ha hb⟩
theorem rep_bool {P:Program} {t:TypeId} (ht:P.underlying t=some .bool):RepOk P t (fun b:Bool=>[.bool b]):=fun enc w sp fuel cs x h=>by
 obtain⟨b,rfl,_⟩:=DataW.trod_bool ht h
 exact⟨b,vrs_cons (.bool b) vrs.nil,by simp[Value.oneCell']⟩
theorem rep_int {P:Program} {t:TypeId} {k:IntKind} (ht:P.underlying t=some (.int k)) {α:Type} (val:α→Int) (hv:∀n,(Lit.int k n).wf=true→∃a,val a=n):RepOk P t (fun a:α=>[.int k (val a)]):=fun enc w sp fuel cs x h=>by
 obtain⟨n,rfl,_,hw⟩:=DataW.trod_int ht h
 obtain⟨a,rfl⟩:=hv n hw
 exact⟨a,vrs_cons (.int k _) vrs.nil,by simp[Value.oneCell']⟩
theorem rep_u8 {P:Program} {t:TypeId} (ht:P.underlying t=some (.int .u8)):RepOk P t (fun b:UInt8=>[.int .u8 b.toNat]):=
 rep_int ht (fun b:UInt8=>(b.toNat:Int)) fun n hw=>by
  have hx:0≤n∧n≤255:=by simpa[Lit.wf,IntKind.min,IntKind.max,IntKind.signed,IntKind.bits]using hw
  refine⟨UInt8.ofNat n.toNat,?_⟩
  rw[UInt8.toNat_ofNat']
  omega
theorem rep_u32 {P:Program} {t:TypeId} (ht:P.underlying t=some (.int .u32)):RepOk P t (fun b:UInt32=>[.int .u32 b.toNat]):=
 rep_int ht (fun b:UInt32=>(b.toNat:Int)) fun n hw=>by
  have hx:0≤n∧n≤4294967295:=by simpa[Lit.wf,IntKind.min,IntKind.max,IntKind.signed,IntKind.bits]using hw
  refine⟨UInt32.ofNat n.toNat,?_⟩
  rw[UInt32.toNat_ofNat']
  omega
theorem list_of {α:Type} {p:Nat→α→Prop}:∀{n:Nat},(∀i,i < n→∃a,p i a)→∃l:List α,l.length=n∧∀i a,l[i]? = some a→p i a
 | 0,_=>⟨[],rfl,by simp⟩
 | n + 1,h=>by
  obtain⟨l,hl,hp⟩:=list_of (p:=p) (n:=n) (fun i hi=>h i (by omega))
  obtain⟨a,ha⟩:=h n (by omega)
  refine⟨l ++ [a],by simp[hl],fun i x hx=>?_⟩
  by_cases hi:i < n
  ·rw[List.getElem?_append_left (by omega)]at hx;exact hp i x hx
  ·have hlt:=(List.getElem?_eq_some_iff.1 hx).1
   have:i=n:=by simp at hlt;omega
   subst this
   rw[List.getElem?_append_right (by omega),hl]at hx
   simp at hx;subst hx;exact ha
theorem rep_slice {P:Program} {t e:TypeId} {sz:Nat} (ht:P.underlying t=some (.slice e)) (hc:P.cellsOf e=sz) (hpos:0 < sz) {α:Type} {cells:α→List V} (hl:∀a,(cells a).length=sz) (he:RepOk P e cells) :
  RepOk P t (fun l:List α=>[.sl false sz (l.map cells)]):=fun enc w sp fuel cs x h=>by
 rcases DataW.trod_slice ht h with⟨rfl,_⟩|⟨ad,len,cap,elems,rest,n,_,rfl,_,hb,hlc,hcm,hlen,hel,_,_⟩
 ·exact⟨[],vrs_cons (.sl false sz [] none 0 (fun _=>undef) (Nat.le_refl _) (Nat.zero_le _) (fun h=>absurd rfl h) (by simp) (by simp) (by simp)) vrs.nil,by simp[Value.oneCell']⟩
 rw[hc]at hel
 have each:∀i,i < len→∃a:α,∃cs,w.cells? 0 (ad.add (i * sz)) sz=some cs∧vrs (G0 w) w (cells a) cs∧∀u∈cs,u.oneCell'=true:=by
  intro i hi
  have h1:=hel i hi
  rw[List.getElem?_eq_getElem (by omega),Option.bind_eq_some_iff]at h1
  obtain⟨cs,h2,h3⟩:=h1
  obtain⟨a,h4,h5⟩:=he enc w sp _ _ _ h3
  exact⟨a,cs,h2,h4,h5⟩
 obtain⟨l,hll,hp⟩:=list_of each
 have hrow:∀x,x∈l.map cells→x.length=sz:=by
  intro x hx
  obtain⟨a,_,rfl⟩:=List.mem_map.1 hx
  exact hl a
 have hfl:=flatten_cells hrow
 rw[List.length_map]at hfl
 have hspot:l ≠ []→ad.spot=none:=by
  intro hne
  have h0:0 < l.length:=List.length_pos_iff.2 hne
  obtain⟨cs,h1,_⟩:=hp 0 _ (List.getElem?_eq_getElem h0)
  obtain⟨_,h2,h3⟩:=World.cells?_some h1
  have h4:=h3 0 hpos
  have h5:((ad.add (0 * sz)).add 0)=ad:=by simp[Addr.add]
  rw[h5,List.getElem?_eq_getElem (by omega)]at h4
  unfold World.cell? at h4
  split at h4
  ·split at h4
   ·cases h4
   ·rename_i hs;simpa using hs
  ·cases h4
 have key:∀(j:Nat) (v:V),(l.map cells).flatten[j]? = some v→∃u,w.cell? ⟨ad.block,ad.off + j,none⟩=some u∧u.oneCell'=true∧vr (G0 w) w v u:=by
  intro j v hv
  have hj:j < l.length * sz:=by rw[← hfl];exact(List.getElem?_eq_some_iff.1 hv).1
  have hi:j / sz < l.length:=(Nat.div_lt_iff_lt_mul hpos).2 hj
  have hk:j % sz < sz:=Nat.mod_lt _ hpos
  have hne:l ≠ []:=by intro e;subst e;simp at hi
  obtain⟨cs,h1,h2,h3⟩:=hp (j / sz) _ (List.getElem?_eq_getElem hi)
  obtain⟨_,h4,h5⟩:=World.cells?_some h1
  have hrw:(l.map cells)[j / sz]? = some (cells l[j / sz]):=by simp[hi]
  have hdm:(j / sz) * sz + j % sz=j:=by rw[Nat.mul_comm];exact Nat.div_add_mod j sz
  have hcl:=hl l[j / sz]
  have hv2:=flatten_row hrow hrw (j % sz) (cells l[j / sz])[j % sz] (List.getElem?_eq_getElem (by omega))
  rw[hdm,hv]at hv2
  have hu:=h5 (j % sz) hk
  rw[List.getElem?_eq_getElem (by omega)]at hu
  have hs:=hspot hne
  have had:(ad.add (j / sz * sz)).add (j % sz)=⟨ad.block,ad.off + j,none⟩:=by
   rw[add_none hs,add_none rfl]
   simp only[Addr.mk.injEq,and_true,true_and]
   omega
  rw[had]at hu
  refine⟨cs[j % sz],hu,h3 _ (List.getElem_mem (by omega)),?_⟩
  cases hv2
  exact h2.2 (j % sz) _ _ (List.getElem?_eq_getElem (by omega)) (List.getElem?_eq_getElem (by omega))
 refine⟨l,vrs_cons ?_ vrs.nil,by simp[Value.oneCell']⟩
 have:=VR.sl (ι:=(G0 w).ι) (csz:=csz w) (imm:=imm (G0 w) w) false sz (l.map cells) (some ad) cap (fun j=>(w.cell? ⟨ad.block,ad.off + j,none⟩).getD undef) (by simp[hll];exact hlc) hcm (fun hne=>⟨ad,rfl,hspot (by intro e;subst e;exact hne rfl)⟩) hrow (fun j v hv ad' e=>by
   cases e
   obtain⟨u,h1,h2,h3⟩:=key j v hv
   refine⟨by rw[h1];exact h1,?_,(fun h=>by cases h),fun _=>by rw[h1];exact h2⟩
   show ad.block < w.heap.size
   unfold World.cell? at h1
   split at h1
   ·rename_i hb;exact(Array.getElem?_eq_some_iff.1 hb).1
   ·cases h1) (fun j v hv=>by
   obtain⟨u,h1,h2,h3⟩:=key j v hv
   rw[h1];exact h3)
 rwa [List.length_map,hll]at this
theorem field_of {H:Type} {enc:TypeId × Value→H} {P:Program} {w:World} {sp:Nat→Bool} {t:TypeId} {fs:Array Field} {fuel:Nat} {cs:List Value} {x:DataW H × List MemPlace} (ht:P.underlying t=some (.struct fs)) (h:DataW.trod enc P w 0 sp true fuel t cs=some x)
  {i:Nat} {f:Field} (hf:fs[i]? = some f) {α:Type} {cells:α→List V} (he:RepOk P f.type cells):∃a,vrs (G0 w) w (cells a) ((cs.drop f.offset).take (P.cellsOf f.type))∧∀u∈(cs.drop f.offset).take (P.cellsOf f.type),u.oneCell'=true:=by
 obtain⟨xs,n,rfl,_,_,hlen,hx⟩:=DataW.trod_struct ht h
 have hi:=(Array.getElem?_eq_some_iff.1 hf).1
 have:=hx i f hf
 rw[List.getElem?_eq_getElem (by omega)]at this
 exact he enc w sp _ _ _ this
theorem arg_struct {P:Program} {t:TypeId} {fs:Array Field} (ht:P.underlying t=some (.struct fs)) {α:Type} {cells:α→List V} (h:RepOk P t cells):ArgOk P t (fun a=>.agg (cells a)):=fun enc W base v d p hok hd=>by
 obtain⟨cs,rfl,_⟩:=okWide_struct ht hok
 obtain⟨fuel,hf⟩:=hd
 obtain⟨a,h1,_⟩:=h enc W _ fuel _ _ hf
 refine⟨a,?_⟩
 have:=VR.agg (ι:=(G0 W).ι) (csz:=csz W) (imm:=imm (G0 W) W) (cells a) cs.toList h1.1 h1.2
 simpa using this
theorem arg_one {P:Program} {t:TypeId} {α:Type} {val:α→V} (hone:∀W base v,Value.okWide P W .any base t v→v.cells=#[v]) (h:RepOk P t (fun a=>[val a])):ArgOk P t val:=fun enc W base v d p hok hd=>by
 obtain⟨fuel,hf⟩:=hd
 rw[hone W base v hok]at hf
 obtain⟨a,h1,_⟩:=h enc W _ fuel _ _ hf
 exact⟨a,h1.2 0 _ _ rfl rfl⟩
theorem arg_slice {P:Program} {t e:TypeId} (ht:P.underlying t=some (.slice e)) {α:Type} {val:α→V} (h:RepOk P t (fun a=>[val a])):ArgOk P t val:=
 arg_one (fun W base v hok=>by obtain⟨a,len,cap,rfl⟩:=okWide_slice ht hok;rfl) h
theorem law_of {H:Type} {enc:TypeId × Value→H} {P:Program} {f:FuncId} {fn:Func} {s:ChangeSpec} {apart fresh handsOn again:Bool} {ts:List TypeId} {tb:TypeId} (hts:fn.params.toList=ts) (hr:fn.resultTypes=#[tb]) (htb:P.underlying tb=some .bool)
  (hlaid:laidOutB P=true) (hread:∀t∈ts,P.readableRec t=true∧t < P.types.size) (hv:s.vars=[]) (hspec:∀ds:List (DataW H),ds.length=ts.length→s.fn H ds={ results:=[.lit (.bool true)],args:=ds })
  {α:Type} {vals:α→List V} (hrep:ArgsOk P ts vals) (hc:∀a,PCon P f (vals a) (.bool true)) (hbody:(P.funcs[f]?.map (·.body.isSome))=some true) {W:World} {base:Nat} {args:Array Value} {ds gs:List (DataW H)} {before:List MemPlace}
  (hval:∀(j:Nat) t v,fn.params[j]? = some t→args[j]? = some v→Value.okWide P W .any base t v) (hW:DataW.Whole enc P fn.params.toList s.vars apart W args.toList ds gs before) (hgl:GlOk (G0 W) W:=by exact fun p hp=>nomatch (show p∈([]:List (Nat × (Obj→Prop)))from hp)) :
  Calls P f args W fun e W'=>∃v,e=.returned v∧s.post enc P fn apart fresh handsOn again W args v W':=by
 have hW':=hW
 obtain⟨p,q,hA0,hV,rfl,hfz,hnd⟩:=hW
 rw[hts]at hA0
 rw[hv]at hV
 obtain⟨rfl,rfl⟩:=trodVars_none hV
 obtain⟨a,ha⟩:=hrep enc W base args.toList ds p (fun j t v h1 h2=>hval j t v (by rw[← hts]at h1;simpa using h1) (by simpa using h2)) hA0
 have hcall:=(hc a).2 (G0 W) W args.toList (hr0 W hgl) ha
 rw[Array.toArray_toList]at hcall
 replace hcall:=hcall.calls hbody
 refine hcall.mono ?_
 rintro e W' ⟨u,v,h',nx',G',rfl,⟨rfl,rfl,rfl⟩,hvu,hr',E,_⟩
 obtain rfl:=VR.bool_iff.1 hvu
 have hlen:=trodAll_len hA0
 have hlt:=hW'.lt
 refine⟨_,rfl,post_same (pa:=p) (pv:=[]) hW' (fun b sp hd=>?_) (fun sp hsp=>?_) (fun sp hsp=>?_) rfl (kept0 E _) (fun b off hb=>?_) (ok_one hr rfl (okWide_bool_mk htb _))⟩
 ·rw[List.append_nil,hspec ds hlen,hr]
  exact⟨[],[],shut_bool htb true,trodAll_mk0,rfl⟩
 ·rw[List.append_nil,hspec ds hlen,hts]
  exact trodAll_same hlaid hread hA0 (fun q hq=>same0 E (hlt q (by simpa using hq))) (fun q hq=>hsp q (by simpa using hq))
 ·rw[List.append_nil,hspec ds hlen,hv]
  rfl
 ·have:=E.keep b (hlt _ hb)
  simp only[World.frozen?,this]
end
theorem CallV.ends {P:Program} {f:FuncId} {args:List V} {h:Heap} {nx:Nat} {R R':V→Heap→Nat→Prop} (hc:CallV P f args h nx R) (hr:∀v h' nx',R v h' nx'→∃v1 h1 nx1,Ends nx ⟨[],h',nx'⟩ v v1 h1 nx1∧R' v1 h1 nx1):CallV P f args h nx R':=
 ⟨hc.1,fun G w us hh hv=>(hc.2 G w us hh hv).mono fun e w' ⟨u,v,h',nx',G',h1,h2,h3,h4,h5,h6⟩=>by
  obtain⟨v1,h1',nx1,he,hR⟩:=hr v h' nx' h2
  obtain⟨G2,g1,g2,g3,g4⟩:=he G' w' u h4 h6 h3
  exact⟨u,v1,h1',nx1,G2,h1,hR,g2,g1,h5.trans g3,g4⟩⟩
theorem PCon.of_own {P:Program} {f:FuncId} {args:List V} {fr ex:Bool} {ty:TypeId} {sz n:Nat} {rows:List (List V)} (hc:OCon P f args fr ex ty sz n rows) (hn:n≤rows.length) (hf:∀x∈rows,∀v∈x,Free v):PCon P f args (.sl fr sz (rows.take n)):=
 hc.ends fun v h' nx' ⟨e1,e2,e3⟩=>by
  subst e1 e2 e3
  exact Ends.pure (s:=⟨[],[(0,some (.arr fr ex ty sz rows))],1⟩) [0] (LeV.freeze_of (by simp) rfl (by omega) hf (by simp)) (by intro z hz;simp at hz;subst hz;simp[hget])
theorem callV_open {P:Program} {f:FuncId} {args:List V} {h:Heap} {nx b:Nat} {fr ex:Bool} {ty:TypeId} {sz:Nat} {rows:List (List V)} {K:V→Heap→Nat→Prop} (hb:hget h b=some (.arr fr ex ty sz rows)) (hpos:0 < sz) (hne:rows ≠ [])
  (i:Nat) {row n:Nat} (ha:args[i]? = some (.osl b sz row n)) (hn:0 < n)
  (hc:∀k,CallV P f args ((b,some (.arr fr true ty sz (rows ++ List.replicate k (List.replicate sz .any)))) :: h) nx K):CallV P f args h nx K:=by
 refine⟨(hc 0).1,fun G w us hr hv=>?_⟩
 obtain⟨m,hm⟩:∃m,∀c cs ty',G.ι b=some c→w.heap[c]? = some (.cells cs ty' (0,0))→cs.size=m * sz:=by
  have hi:i < us.length:=by rw[← hv.1];exact(List.getElem?_eq_some_iff.1 ha).1
  have hx:=hv.2 i _ us[i] ha (List.getElem?_eq_getElem hi)
  generalize us[i]=u at hx
  cases hx with
  | osl _ _ _ _ c cap m hc hz he h1 h2=>
   refine⟨row + cap,fun c' cs ty' hc' hh=>?_⟩
   rw[hc]at hc';cases hc'
   have:csz w c=some cs.size:=by unfold csz;rw[hh]
   rw[this]at hz
   cases hz
   exact he.symm
  | oslz=>omega
 obtain⟨hs,hown⟩:=hr.own b _ hb
 rcases hown with⟨_,h0⟩|⟨c,cs,h1,h2,h3,h4,h5,h6,h7⟩
 ·exact absurd h0 hne
 have hfl:=flatten_cells hs
 have hsz:=hm c cs ty h1 h2
 rw[hfl,hsz]at h3
 have hle:rows.length≤m:=Nat.le_of_mul_le_mul_right h3 hpos
 refine(hc (m - rows.length)).2 G w us ⟨hr.amb_lt,hr.B_le,hr.dom,fun b' blk hb'=>?_,fun b1 b2 k1 k2 c' g1 g2=>?_,fun b' k c' g1=>?_,hr.lt,fun b' k g1=>?_,hr.gl⟩ hv
 ·rw[hget_cons]at hb'
  split at hb'
  ·rename_i e
   subst e;cases hb'
   have hrow:∀x,x∈rows ++ List.replicate (m - rows.length) (List.replicate sz V.any)→x.length=sz:=by
    intro x hx
    rcases List.mem_append.1 hx with hx|hx
    ·exact hs x hx
    ·rw[List.eq_of_mem_replicate hx,List.length_replicate]
   have hlen:(rows ++ List.replicate (m - rows.length) (List.replicate sz V.any)).flatten.length=cs.size:=by
    rw[flatten_cells hrow,hsz,List.length_append,List.length_replicate]
    congr 1
    omega
   refine⟨hrow,.inr ⟨c,cs,h1,h2,Nat.le_of_eq hlen,fun _=>hlen,h5,fun j v hj=>?_,h7⟩⟩
   rcases Nat.lt_or_ge j rows.flatten.length with hj1|hj1
   ·rw[List.flatten_append,List.getElem?_append_left hj1]at hj
    exact h6 j v hj
   ·have hlt:=(List.getElem?_eq_some_iff.1 hj).1
    rw[hlen]at hlt
    refine⟨cs[j],Array.getElem?_eq_getElem hlt,h7 j _ (Array.getElem?_eq_getElem hlt),?_⟩
    rw[List.flatten_append,List.getElem?_append_right hj1]at hj
    obtain⟨x,hx,hvx⟩:=List.mem_flatten.1 (List.mem_of_getElem? hj)
    rw[List.eq_of_mem_replicate hx]at hvx
    rw[List.eq_of_mem_replicate hvx]
    exact .any _
  ·exact hr.own b' blk hb'
 ·have live:∀{b' k},hget ((b,some (.arr fr true ty sz (rows ++ List.replicate (m - rows.length) (List.replicate sz .any)))) :: h) b'=some k→∃k',hget h b'=some k':=by
   intro b' k hk
   rw[hget_cons]at hk
   split at hk
   ·rename_i e;subst e;exact⟨_,hb⟩
   ·exact⟨k,hk⟩
  obtain⟨_,q1⟩:=live g1
  obtain⟨_,q2⟩:=live g2
  exact hr.inj b1 b2 _ _ c' q1 q2
 ·rw[hget_cons]at g1
  split at g1
  ·rename_i e;subst e;exact hr.apart b _ c' hb
  ·exact hr.apart b' k c' g1
 ·rw[hget_cons]at g1
  split at g1
  ·rename_i e;subst e;exact hr.hdom b _ hb
  ·exact hr.hdom b' k g1
def VCon (P:Program) (f:FuncId) (args:List V) (val:Nat→V) (blk:Blk):Prop:=CallV P f args [] 0 (fun v h' nx'=>v=val 0∧h'=[(0,some blk)]∧nx'=1)
def Mov (val:Nat→V):Prop:=∀(ι ι' z:Nat→Option Nat) (im im':Bool→Addr→Value→Prop) (b:Nat) (u:Value),ι' b=ι 0→(∀a u,im true a u→im' true a u)→VR ι z im (val 0) u→VR ι' z im' (val b) u
theorem Mov.const {v:V} (h1:Free v) (h2:Fresh v):Mov (fun _=>v):=fun ι ι' z im im' b u _ hi hv=>h1 _ _ _ _ _ (h2 _ _ _ _ _ hi hv)
theorem Mov.osl {sz row n:Nat}:Mov (fun b=>.osl b sz row n):=fun ι ι' z im im' b u hb hi hv=>by
 cases hv with
 | osl _ _ _ _ c cap m hc hz he h1 h2=>exact .osl _ _ _ _ c cap m (hb.trans hc) hz he h1 h2
 | oslz _ _ _ A=>exact .oslz _ _ _ A
theorem Mov.agg {cs:List (Nat→V)} (h:∀c∈cs,Mov c):Mov (fun b=>.agg (cs.map (fun c=>c b))):=fun ι ι' z im im' b u hb hi hv=>by
 have hv:VR ι z im (.agg (cs.map fun c=>c 0)) u:=hv
 show VR ι' z im' (.agg (cs.map fun c=>c b)) u
 cases hv with
 | agg _ us hl h1=>
  refine .agg _ us (by simpa using hl) fun j v u hj hu=>?_
  rw[List.getElem?_map]at hj
  obtain⟨c,hc,rfl⟩:=Option.map_eq_some_iff.1 hj
  exact h c (List.mem_of_getElem? hc) _ _ _ _ _ _ _ hb hi (h1 j (c 0) u (by rw[List.getElem?_map,hc];rfl) hu)
theorem Mov.tup {cs:List (Nat→V)} (h:∀c∈cs,Mov c):Mov (fun b=>.tup (cs.map (fun c=>c b))):=fun ι ι' z im im' b u hb hi hv=>by
 have hv:VR ι z im (.tup (cs.map fun c=>c 0)) u:=hv
 show VR ι' z im' (.tup (cs.map fun c=>c b)) u
 cases hv with
 | tup _ us hl h1=>
  refine .tup _ us (by simpa using hl) fun j v u hj hu=>?_
  rw[List.getElem?_map]at hj
  obtain⟨c,hc,rfl⟩:=Option.map_eq_some_iff.1 hj
  exact h c (List.mem_of_getElem? hc) _ _ _ _ _ _ _ hb hi (h1 j (c 0) u (by rw[List.getElem?_map,hc];rfl) hu)
theorem callV_vown {P:Program} {f:FuncId} {args args0:List V} {val:Nat→V} {h:Heap} {nx sz:Nat} {fr ex:Bool} {ty:TypeId} {rows:List (List V)} {K:V→Heap→Nat→Prop} (Z:List Nat) (hc:VCon P f args0 val (.arr fr ex ty sz rows))
  (ha:LeL h nx id 0 Z args args0) (hcold:∀v∈args0,Cold v) (hz:∀z∈Z,hget h z ≠ none) (hrows:∀x∈rows,∀v∈x,Free v∧Fresh v)
  (hmov:Mov val) (hK:K (val nx) ((nx,some (.arr fr ex ty sz rows)) :: h) (nx + 1)):CallV P f args h nx K:=by
 refine⟨hc.1,fun G w us hr hv=>?_⟩
 have hl:LeH 0 h nx id 0 Z []:=⟨fun b blk hb=>by simp[hget]at hb,fun b b' hb=>by simp[hget]at hb,fun b hb=>by omega,Nat.le_refl _,hz⟩
 obtain⟨hr0,_⟩:=hl.ok hr
 have hr0':HR ⟨(G.to id 0 Z).ι,(G.to id 0 Z).amb,w.heap.size⟩ [] 0 w:=⟨hr0.amb_lt,Nat.le_refl _,hr0.dom,fun b blk hb=>by simp[hget]at hb,fun b b' k k' c hb=>by simp[hget]at hb,fun b k c hb=>by simp[hget]at hb,hr0.lt,fun b k hb=>by simp[hget]at hb,hr0.gl.to (fun _ h=>h) (fun _ _=>rfl)⟩
 have hva:vrs ⟨(G.to id 0 Z).ι,(G.to id 0 Z).amb,w.heap.size⟩ w args0 us:=by
  have:=ha.vrs hr hv
  exact⟨this.1,fun j v u hj hu=>hcold v (List.mem_of_getElem? hj) _ _ _ _ _ (fun a u hi=>⟨hi.1,hi.2.1,(fun h=>by cases h),hi.2.2.2⟩) (this.2 j v u hj hu)⟩
 refine(hc.2 _ w us hr0' hva).mono ?_
 rintro e w' ⟨u,v,h',nx',G1,rfl,⟨rfl,rfl,rfl⟩,hv1,hr1,E,_⟩
 have hn0:∀b,(G.to id 0 Z).ι b=none:=fun b=>by simp[Gh.to]
 have hB:G1.B=w.heap.size:=E.B
 have hnew:∀b c,G1.ι b=some c→w.heap.size≤c:=by
  intro b c hb
  rcases Nat.lt_or_ge c w.heap.size with h1|h1
  ·obtain⟨b',hb'⟩:=E.idn b c hb h1
   rw[show(Gh.mk (G.to id 0 Z).ι (G.to id 0 Z).amb w.heap.size).ι b'=none from hn0 b']at hb';cases hb'
  ·exact h1
 have hi:G.ι nx=none:=hr.dom nx (Nat.le_refl _)
 let G':Gh:=⟨fun b=>if b=nx then G1.ι 0 else G.ι b,fun c=>G.amb c∨(G1.amb c∧w.heap.size≤c),G.B⟩
 have hιn:G'.ι nx=G1.ι 0:=by simp[G']
 have hιo:∀b,b ≠ nx→G'.ι b=G.ι b:=fun b hb=>by simp[G',hb]
 have he:EvoA G w G' w':=fun base=>⟨E.os,E.tape,E.output,E.size,rfl,fun c hc=>.inl hc,fun c hc=>E.keep c (.inl hc),E.csz,fun b c _ hc=>by
   by_cases e:b=nx
   ·subst e;rw[hi]at hc;cases hc
   ·rw[hιo b e];exact hc,fun c hc _=>E.keepu c hc (fun b=>by simp[hn0]),
  fun c hc hlt=>.inl (hc.resolve_right (fun h=>by omega)),fun b c hc hlt=>by
   by_cases e:b=nx
   ·subst e;rw[hιn]at hc;have:=hnew 0 c hc;omega
   ·rw[hιo b e]at hc;exact⟨b,hc⟩⟩
 have toG:∀{v:V} {u:Value},Free v∧Fresh v→vr G1 w' v u→vr G' w' v u:=fun hf hv=>by
  refine hf.1 _ _ _ _ _ (hf.2 _ _ _ (imm G' w') _ (fun a u hi=>?_) hv)
  have h3:=hi.2.2.1 rfl
  rw[hB]at h3
  exact⟨hi.1,.inr ⟨hi.2.1,h3.1⟩,fun _=>⟨Nat.le_trans hr.B_le h3.1,h3.2⟩,hi.2.2.2⟩
 refine⟨u,_,_,nx + 1,G',rfl,hK,?_,⟨fun c hc=>?_,Nat.le_trans hr.B_le E.size,fun b hb=>?_,fun b blk hb=>?_,fun b1 b2 k1 k2 c h1 h2 h3 h4=>?_,fun b blk c hb hc ha=>?_,fun b c hc=>?_,fun b blk hb=>?_,hr.gl.evo (he 0)⟩,he nx,Nat.le_succ _⟩
 ·refine hmov _ _ _ _ _ nx u hιn (fun a u hi=>?_) hv1
  have h3:=hi.2.2.1 rfl
  rw[hB]at h3
  exact⟨hi.1,.inr ⟨hi.2.1,h3.1⟩,fun _=>⟨Nat.le_trans hr.B_le h3.1,h3.2⟩,hi.2.2.2⟩
 ·rcases hc with hc|hc
  ·exact Nat.lt_of_lt_of_le (hr.amb_lt c hc) E.size
  ·exact hr1.amb_lt c hc.1
 ·rw[hιo b (by omega)];exact hr.dom b (by omega)
 ·rw[hget_cons]at hb
  split at hb
  ·rename_i e
   subst e;cases hb
   obtain⟨q1,q2⟩:BlkOk G1 w' 0 (.arr fr ex ty sz rows):=hr1.own 0 _ (by simp[hget])
   refine⟨q1,?_⟩
   rcases q2 with⟨q2,q3⟩|⟨c,cs,e1,e2,e3,e4,e5,e6,e7⟩
   ·exact .inl ⟨by rw[hιn];exact q2,q3⟩
   ·refine .inr ⟨c,cs,by rw[hιn];exact e1,e2,e3,e4,fun hf=>Nat.le_trans hr.B_le (hnew 0 c e1),fun j v hj=>?_,e7⟩
    obtain⟨u,hu,h1,hvr⟩:=e6 j v hj
    obtain⟨x,hx,hvx⟩:=List.mem_flatten.1 (List.mem_of_getElem? hj)
    exact⟨u,hu,h1,toG (hrows x hx v hvx) hvr⟩
  ·rename_i e
   exact(hr.own b blk hb).keep he (fun c hc=>E.keepu c (hr.lt b c hc) (fun b=>by simp[hn0])) (fun hn=>by rw[hιo b (Ne.symm e)];exact hn)
 ·rw[hget_cons]at h1 h2
  by_cases e1:b1=nx<;>by_cases e2:b2=nx
  ·omega
  ·subst e1
   rw[hιn]at h3;rw[hιo b2 e2]at h4
   have:=hnew 0 c h3
   have:=hr.lt b2 c h4
   omega
  ·subst e2
   rw[hιn]at h4;rw[hιo b1 e1]at h3
   have:=hnew 0 c h4
   have:=hr.lt b1 c h3
   omega
  ·rw[if_neg (Ne.symm e1)]at h1;rw[if_neg (Ne.symm e2)]at h2
   rw[hιo b1 e1]at h3;rw[hιo b2 e2]at h4
   exact hr.inj b1 b2 k1 k2 c h1 h2 h3 h4
 ·by_cases e:b=nx
  ·subst e
   rw[hιn]at hc
   have hge:=hnew 0 c hc
   rcases ha with ha|ha
   ·have:=hr.amb_lt c ha;omega
   ·exact hr1.apart 0 (.arr fr ex ty sz rows) c (by simp[hget]) hc ha.1
  ·rw[hιo b e]at hc
   rw[hget_cons,if_neg (Ne.symm e)]at hb
   have:=hr.lt b c hc
   rcases ha with ha|ha
   ·exact hr.apart b blk c hb hc ha
   ·omega
 ·by_cases e:b=nx
  ·subst e;rw[hιn]at hc;exact hr1.lt 0 c hc
  ·rw[hιo b e]at hc;exact Nat.lt_of_lt_of_le (hr.lt b c hc) E.size
 ·rw[hget_cons]at hb
  split at hb
  ·omega
  ·have:=hr.hdom b blk hb;omega
theorem callV_own0 {P:Program} {f:FuncId} {args args0:List V} {h:Heap} {nx n sz:Nat} {fr ex:Bool} {ty:TypeId} {rows:List (List V)} {K:V→Heap→Nat→Prop} (hc:OCon P f args0 fr ex ty sz n rows)
  (ha:LeL h nx id 0 [] args args0) (hrows:∀x∈rows,∀v∈x,Free v)
  (hK:K (.osl nx sz 0 n) ((nx,some (.arr fr ex ty sz rows)) :: h) (nx + 1)):CallV P f args h nx K:=by
 refine⟨hc.1,fun G w us hr hv=>?_⟩
 have hl:LeH 0 h nx id 0 [] []:=⟨fun b blk hb=>by simp[hget]at hb,fun b b' hb=>by simp[hget]at hb,fun b hb=>by omega,Nat.le_refl _,by simp⟩
 obtain⟨hr0,_⟩:=hl.ok hr
 refine(hc.2 _ w us hr0 (ha.vrs hr hv)).mono ?_
 rintro e w' ⟨u,v,h',nx',G1,rfl,⟨rfl,rfl,rfl⟩,hv1,hr1,E,_⟩
 have hn0:∀b,(G.to id 0 []).ι b=none:=fun b=>by simp[Gh.to]
 have hB:G1.B=G.B:=E.B
 have hnew:∀b c,G1.ι b=some c→w.heap.size≤c:=by
  intro b c hb
  rcases Nat.lt_or_ge c w.heap.size with h1|h1
  ·obtain⟨b',hb'⟩:=E.idn b c hb h1
   rw[hn0]at hb';cases hb'
  ·exact h1
 have ham:∀c,G1.amb c→c < w.heap.size→G.amb c:=by
  intro c hc hlt
  rcases E.ambn c hc hlt with(h1|⟨_,h1,_⟩)|⟨b,h1⟩
  ·exact h1
  ·simp at h1
  ·rw[hn0]at h1;cases h1
 have hi:G.ι nx=none:=hr.dom nx (Nat.le_refl _)
 let G':Gh:=⟨fun b=>if b=nx then G1.ι 0 else G.ι b,G1.amb,G.B⟩
 have hιn:G'.ι nx=G1.ι 0:=by simp[G']
 have hιo:∀b,b ≠ nx→G'.ι b=G.ι b:=fun b hb=>by simp[G',hb]
 have he:EvoA G w G' w':=fun base=>⟨E.os,E.tape,E.output,E.size,rfl,fun c hc=>E.amb c (.inl hc),fun c hc=>E.keep c (.inl hc),E.csz,fun b c _ hc=>by
   by_cases e:b=nx
   ·subst e;rw[hi]at hc;cases hc
   ·rw[hιo b e];exact hc,fun c hc _=>E.keepu c hc (fun b=>by rw[hn0];simp),
  fun c hc hlt=>.inl (ham c hc hlt),fun b c hc hlt=>by
   by_cases e:b=nx
   ·subst e;rw[hιn]at hc;have:=hnew 0 c hc;omega
   ·rw[hιo b e]at hc;exact⟨b,hc⟩⟩
 have toG:∀{v:V} {u:Value},Free v→vr G1 w' v u→vr G' w' v u:=fun hf hv=>
  hf _ _ _ _ _ (VR.mono (ι:=G1.ι) (ι':=G1.ι) (imm:=imm G1 w') (imm':=imm G' w') (fun _ _ h=>h) (fun _ _ h=>h) (fun fr a u hi=>⟨hi.1,hi.2.1,fun hf=>by have:=hi.2.2.1 hf;rw[hB]at this;exact this,hi.2.2.2⟩) hv)
 refine⟨u,_,_,nx + 1,G',rfl,hK,?_,⟨hr1.amb_lt,Nat.le_trans hr.B_le E.size,fun b hb=>?_,fun b blk hb=>?_,fun b1 b2 k1 k2 c h1 h2 h3 h4=>?_,fun b blk c hb hc ha=>?_,fun b c hc=>?_,fun b blk hb=>?_,hr.gl.evo (he 0)⟩,he nx,Nat.le_succ _⟩
 ·cases hv1 with
  | osl _ _ _ _ c cap m hc hz he h1 h2=>exact .osl _ _ _ _ c cap m (by rw[hιn];exact hc) hz he h1 h2
  | oslz _ _ _ A=>exact .oslz _ _ _ A
 ·rw[hιo b (by omega)];exact hr.dom b (by omega)
 ·rw[hget_cons]at hb
  split at hb
  ·rename_i e
   subst e;cases hb
   obtain⟨q1,q2⟩:BlkOk G1 w' 0 (.arr fr ex ty sz rows):=hr1.own 0 _ (by simp[hget])
   refine⟨q1,?_⟩
   rcases q2 with⟨q2,q3⟩|⟨c,cs,e1,e2,e3,e4,e5,e6,e7⟩
   ·exact .inl ⟨by rw[hιn];exact q2,q3⟩
   ·refine .inr ⟨c,cs,by rw[hιn];exact e1,e2,e3,e4,fun hf=>Nat.le_trans hr.B_le (hnew 0 c e1),fun j v hj=>?_,e7⟩
    obtain⟨u,hu,h1,hvr⟩:=e6 j v hj
    obtain⟨x,hx,hvx⟩:=List.mem_flatten.1 (List.mem_of_getElem? hj)
    exact⟨u,hu,h1,toG (hrows x hx v hvx) hvr⟩
  ·rename_i e
   exact(hr.own b blk hb).keep he (fun c hc=>E.keepu c (hr.lt b c hc) (fun b=>by rw[hn0];simp)) (fun hn=>by rw[hιo b (Ne.symm e)];exact hn)
 ·rw[hget_cons]at h1 h2
  by_cases e1:b1=nx<;>by_cases e2:b2=nx
  ·omega
  ·subst e1
   rw[hιn]at h3;rw[hιo b2 e2]at h4
   have:=hnew 0 c h3
   have:=hr.lt b2 c h4
   omega
  ·subst e2
   rw[hιn]at h4;rw[hιo b1 e1]at h3
   have:=hnew 0 c h4
   have:=hr.lt b1 c h3
   omega
  ·rw[if_neg (Ne.symm e1)]at h1;rw[if_neg (Ne.symm e2)]at h2
   rw[hιo b1 e1]at h3;rw[hιo b2 e2]at h4
   exact hr.inj b1 b2 k1 k2 c h1 h2 h3 h4
 ·by_cases e:b=nx
  ·subst e
   rw[hιn]at hc
   exact hr1.apart 0 (.arr fr ex ty sz rows) c (by simp[hget]) hc ha
  ·rw[hιo b e]at hc
   rw[hget_cons,if_neg (Ne.symm e)]at hb
   exact hr.apart b blk c hb hc (ham c ha (hr.lt b c hc))
 ·by_cases e:b=nx
  ·subst e;rw[hιn]at hc;exact hr1.lt 0 c hc
  ·rw[hιo b e]at hc;exact Nat.lt_of_lt_of_le (hr.lt b c hc) E.size
 ·rw[hget_cons]at hb
  split at hb
  ·omega
  ·have:=hr.hdom b blk hb;omega
theorem overlaps_zero {P:Program} {T:Tab} (hT:TabOk P T) {t r e:TypeId} (hk:(T t).k=.slice e) (ht:(T e).k ≠ .other) (w:World) (A B:Option Addr) (la ca lb cb:Nat) (h:la=0∨lb=0) :
  (Extern.SlicesOverlaps.overlaps #[t,t] #[r] #[.slice A la ca,.slice B lb cb]).run P w=.ok (.bool false) w:=by
 obtain⟨_,_,d,_,_,_,_,_,h6,h7⟩:=hT.at (t:=t) (by rw[hk];simp)
 rw[hk,DescOk]at h7
 subst h7
 have h0:la=0∨lb=0∨(T e).size=0:=by rcases h with h|h<;>simp[h]
 change Sem.run P (α:=Value) (do
  let some t:=(#[t,t]:Array TypeId)[0]?|stuck "slices.overlaps: no parameter types"
  let .slice elem ← underlying t|stuck "slices.overlaps: slice type expected"
  let size ← sizeOf elem
  match A,B with
  | some a,some b=>
   if la=0∨lb=0∨size=0 then pure (Value.bool false)
   else if a.block != b.block && (← frozen a)&& (← frozen b)then unsupported .addressObserved
   else do
    if a.block != b.block then do
     noView a;noView b
     if ← mayBeOne a b then return Value.bool ((← choose (.extern "sameAddr.stringBytes" 2)) == 1)
    pure (Value.bool (a.block == b.block && a.off < b.off + lb * size && b.off < a.off + la * size))
  | _,_=>pure (Value.bool false)) w=_
 rcases A with _|a<;>rcases B with _|b<;>simp[run_underlying h6,hT.sizeOf ht,h0]
theorem callV_overlaps {P:Program} {T:Tab} (hT:TabOk P T) {f:FuncId} {fn:Func} {t r e:TypeId} (hk:(T t).k=.slice e) (ht:(T e).k ≠ .other) (hpos:0 < (T e).size) (hf:P.funcs[f]? = some fn) (hname:(fn.name == "runtime.NumGoroutine")=false) (hb:fn.body.isNone=true)
  (hn:Extern.findNext fn=none) (he:Extern.find fn=some (Extern.SlicesOverlaps.overlaps #[t,t] #[r])) {h:Heap} {nx b1 b2 r1 r2 n1 n2:Nat} {fr1 ex1 fr2 ex2:Bool} {ty1 ty2 s1 s2:Nat} {rows1 rows2:List (List V)} {K:V→Heap→Nat→Prop}
  (h1:hget h b1=some (.arr fr1 ex1 ty1 s1 rows1)) (h2:hget h b2=some (.arr fr2 ex2 ty2 s2 rows2)) (hne:b1 ≠ b2) (hK:K (.bool false) h nx) :
  CallV P f [.osl b1 (T e).size r1 n1,.osl b2 (T e).size r2 n2] h nx K:=by
 refine⟨⟨fn,hf⟩,fun G w us hr hv=>.inr ⟨⟨fn,hf,by cases hbb:fn.body<;>simp[hbb]at hb ⊢⟩,.bool false,w,?_,.bool false,.bool false,h,nx,G,rfl,hK,.bool _,hr,Evo.refl _ _ _,Nat.le_refl _⟩⟩
 obtain⟨hl,hv⟩:=hv
 match us,hl with
 | [u1,u2],_=>
  have v1:=hv 0 _ u1 rfl rfl
  have v2:=hv 1 _ u2 rfl rfl
  rw[run_callFunc_extern hf hname hb hn he]
  have key:(Extern.SlicesOverlaps.overlaps #[t,t] #[r] #[u1,u2]).run P w=.ok (.bool false) w:=by
   cases v1 with
   | oslz _ _ _ A=>
    cases v2 with
    | oslz _ _ _ B=>exact overlaps_zero hT hk ht w _ _ _ _ _ _ (.inl rfl)
    | osl _ _ _ _ c2 cap2 m2 hc2 hz2 he2 hn2 hm2=>exact overlaps_zero hT hk ht w _ _ _ _ _ _ (.inl rfl)
   | osl _ _ _ _ c1 cap1 m1 hc1 hz1 he1 hn1 hm1=>
    cases v2 with
    | oslz _ _ _ B=>exact overlaps_zero hT hk ht w _ _ _ _ _ _ (.inr rfl)
    | osl _ _ _ _ c2 cap2 m2 hc2 hz2 he2 hn2 hm2=>
     by_cases h0:n1=0∨n2=0
     ·exact overlaps_zero hT hk ht w _ _ _ _ _ _ h0
     obtain⟨_,_,d,_,_,_,_,_,h6,h7⟩:=hT.at (t:=t) (by rw[hk];simp)
     rw[hk,DescOk]at h7
     subst h7
     have hcc:c1 ≠ c2:=by
      rintro rfl
      exact hne (hr.inj b1 b2 _ _ c1 h1 h2 hc1 hc2)
     obtain⟨_,o1⟩:=hr.own b1 _ h1
     obtain⟨_,o2⟩:=hr.own b2 _ h2
     rcases o1 with⟨q,_⟩|⟨c1',cs1,q1,hh1,_⟩
     ·rw[q]at hc1;cases hc1
     rw[hc1]at q1;cases q1
     rcases o2 with⟨q,_⟩|⟨c2',cs2,q2,hh2,_⟩
     ·rw[q]at hc2;cases hc2
     rw[hc2]at q2;cases q2
     have e2:cs2.size=m2:=by
      have:csz w c2=some cs2.size:=by unfold csz;rw[hh2]
      rw[this]at hz2;exact Option.some.inj hz2
     have hkB:cs2.size ≠ 0:=by
      rw[e2,← he2]
      have:0 < (r2 + cap2) * (T e).size:=Nat.mul_pos (by omega) hpos
      omega
     exact Lib.run_overlaps_apart w t r e h6 (T e).size (fun w=>hT.sizeOf ht w) _ _ n1 cap1 n2 cap2 hcc ty1 ty2 cs1.size cs2.size (by simp[World.shape?,hh1]) (by simp[World.shape?,hh2]) hkB (by simp[World.frozen?,hh1]) (by simp[World.frozen?,hh1])
  rw[key];rfl
section
section
variable {h : Heap} {nx nx' : Nat} {ρ : Nat → Nat} {Z : List Nat}
def LeR (h:Heap) (nx:Nat) (ρ:Nat→Nat) (nx':Nat) (Z:List Nat):List (List V)→List (List V)→Prop
 | [],[]=>True
 | x :: r,y :: r'=>LeL h nx ρ nx' Z x y∧LeR h nx ρ nx' Z r r'
 | _,_=>False
theorem LeR.out:∀{xs ys:List (List V)},LeR h nx ρ nx' Z xs ys→xs.map List.length=ys.map List.length∧∀(j:Nat) (v v':V),xs.flatten[j]? = some v→ys.flatten[j]? = some v'→LeV h nx ρ nx' Z v v'
 | [],[],_=>⟨rfl,by simp⟩
 | x :: r,y :: r',hh=>by
  obtain⟨h1,h2⟩:=LeR.out hh.2
  have hx:=LeL.out hh.1
  refine⟨by simp[h1,hx.1],fun j a b ha hb=>?_⟩
  rw[List.flatten_cons]at ha hb
  rcases Nat.lt_or_ge j x.length with hj|hj
  ·rw[List.getElem?_append_left hj]at ha
   rw[List.getElem?_append_left (by omega)]at hb
   exact hx.2 j a b ha hb
  ·rw[List.getElem?_append_right hj]at ha
   rw[List.getElem?_append_right (by omega),← hx.1]at hb
   exact h2 _ a b ha hb
 | [],_ :: _,hh=>hh.elim
 | _ :: _,[],hh=>hh.elim
theorem LeL.freeV:∀{cells:List V},(∀v∈cells,Free v)→LeL h nx ρ nx' Z cells cells
 | [],_=>trivial
 | v :: r,hf=>⟨.free (hf v (by simp)),LeL.freeV (fun v hv=>hf v (by simp[hv]))⟩
theorem LeR.free:∀{rows:List (List V)},(∀x∈rows,∀v∈x,Free v)→LeR h nx ρ nx' Z rows rows
 | [],_=>trivial
 | x :: r,hf=>⟨LeL.freeV (hf x (by simp)),LeR.free (fun y hy=>hf y (by simp[hy]))⟩
theorem LeR.map {α:Type} {f g:α→List V}:∀{l:List α},(∀a∈l,LeL h nx ρ nx' Z (f a) (g a))→LeR h nx ρ nx' Z (l.map f) (l.map g)
 | [],_=>trivial
 | x :: r,hf=>⟨hf x (by simp),LeR.map (fun y hy=>hf y (by simp[hy]))⟩
theorem LeR.of_eq {xs ys zs:List (List V)} (e:xs=ys) (hr:LeR h nx ρ nx' Z ys zs):LeR h nx ρ nx' Z xs zs:=e▸hr
theorem LeV.freezeR {b sz row n:Nat} {fr ex:Bool} {ty:TypeId} {rows ys:List (List V)} (hz:b∈Z) (hb:hget h b=some (.arr fr ex ty sz rows)) (hn:row + n≤rows.length) (hle:LeR h nx ρ nx' Z ((rows.drop row).take n) ys) :
  LeV h nx ρ nx' Z (.osl b sz row n) (.sl fr sz ys):=fun G w u hr hv=>by
 obtain⟨hs,hown⟩:=hr.own b _ hb
 obtain⟨hmap,hpt⟩:=hle.out
 have hsub:∀x,x∈(rows.drop row).take n→x∈rows:=fun x hx=>List.mem_of_mem_drop (List.mem_of_mem_take hx)
 have hlen0:((rows.drop row).take n).length=n:=by simp;omega
 have hlen:ys.length=n:=by
  have:=congrArg List.length hmap
  rw[List.length_map,List.length_map]at this
  omega
 have hfl0:((rows.drop row).take n).flatten.length=ys.flatten.length:=by rw[List.length_flatten,List.length_flatten,hmap]
 have hys:∀y,y∈ys→y.length=sz:=by
  intro y hy
  have:y.length∈ys.map List.length:=List.mem_map_of_mem hy
  rw[← hmap]at this
  obtain⟨x,hx,e⟩:=List.mem_map.1 this
  rw[← e];exact hs x (hsub x hx)
 cases hv with
 | oslz _ _ _ A=>
  obtain rfl:ys=[]:=List.eq_nil_of_length_eq_zero hlen
  exact .sl fr sz [] A 0 (fun _=>undef) (Nat.le_refl _) (Nat.zero_le _) (fun h=>absurd rfl h) (by simp) (by simp) (by simp)
 | osl _ _ _ _ c cap m hc hz' he h1 h2=>
  rcases hown with⟨h0,_⟩|⟨c',cs,e1,hh,hle',hex,hfr,hcell,_⟩
  ·rw[h0]at hc;cases hc
  rw[hc]at e1;cases e1
  have hfl:=flatten_cells hs
  have hat:∀(j:Nat) (v:V),((rows.drop row).take n).flatten[j]? = some v→rows.flatten[row * sz + j]? = some v:=by
   intro j v hj
   have e:rows.flatten=(rows.take row).flatten ++ (((rows.drop row).take n).flatten ++ ((rows.drop row).drop n).flatten):=by
    rw[← List.flatten_append,List.take_append_drop,← List.flatten_append,List.take_append_drop]
   have l:(rows.take row).flatten.length=row * sz:=by rw[flatten_cells (fun x hx=>hs x (List.mem_of_mem_take hx)),List.length_take,Nat.min_eq_left (by omega)]
   rw[e,List.getElem?_append_right (by omega),l,show row * sz + j - row * sz=j by omega,List.getElem?_append_left (List.getElem?_eq_some_iff.1 hj).1,hj]
  have hold:∀(j:Nat) (v':V),ys.flatten[j]? = some v'→∃v,((rows.drop row).take n).flatten[j]? = some v:=by
   intro j v' hj
   have hlt:j < ((rows.drop row).take n).flatten.length:=by rw[hfl0];exact(List.getElem?_eq_some_iff.1 hj).1
   exact⟨_,List.getElem?_eq_getElem hlt⟩
  have:=VR.sl (ι:=(G.to ρ nx' Z).ι) (csz:=csz w) (imm:=imm (G.to ρ nx' Z) w) fr sz ys (some ⟨c,row * sz,none⟩) cap (fun j=>cs[row * sz + j]?.getD undef) (by omega) h2
   (fun _=>⟨_,rfl,rfl⟩) hys (fun j v' hj ad ha=>by
    cases ha
    obtain⟨v,hv⟩:=hold j v' hj
    obtain⟨u,hu,hone,_⟩:=hcell _ v (hat j v hv)
    refine⟨by simp[rd,World.cell?,hh,hu],.inr ⟨b,hz,hc⟩,fun hf=>⟨hfr hf,by simp[World.frozen?,hh]⟩,by simp[hu,hone]⟩) (fun j v' hj=>by
    obtain⟨v,hv0⟩:=hold j v' hj
    obtain⟨u,hu,_,hv⟩:=hcell _ v (hat j v hv0)
    simp only[hu,Option.getD_some]
    exact hpt j v v' hv0 hj G w u hr hv)
  rw[hlen]at this
  exact this
theorem LeV.freezeE {b sz row n:Nat} {fr ex:Bool} {ty:TypeId} {rows ys:List (List V)} (hz:b∈Z) (hb:hget h b=some (.arr fr ex ty sz rows)) (hn:row + n≤rows.length) (e:(rows.drop row).take n=ys) (hf:∀x∈ys,∀v∈x,Free v) :
  LeV h nx ρ nx' Z (.osl b sz row n) (.sl fr sz ys):=.freezeR hz hb hn (.of_eq e (.free hf))
theorem LeR.eq {xs ys:List (List V)} (e:xs=ys) (hf:∀x∈xs,∀v∈x,Free v):LeR h nx ρ nx' Z xs ys:=by subst e;exact .free hf
theorem LeB.arrE {fr fr' ex ex':Bool} {ty sz:Nat} {xs ys:List (List V)} (e:xs=ys) (hf:∀x∈xs,∀v∈x,Free v) (h1:fr'=true→fr=true) (h2:ex'=true→ex=true):LeB h nx ρ nx' Z (.arr fr ex ty sz xs) (.arr fr' ex' ty sz ys):=
 ⟨h1,h2,rfl,rfl,(LeR.eq (h:=h) (nx:=nx) (ρ:=ρ) (nx':=nx') (Z:=Z) e hf).out⟩
end
end
section
def sig (ρ:Nat→Nat) (n0 nx:Nat) (b:Nat):Nat:=if b < n0 then ρ b else nx + (b - n0)
def Ren (σ:Nat→Nat) (v v':V):Prop:=∀(ι ι' z:Nat→Option Nat) (im:Bool→Addr→Value→Prop) (u:Value),(∀b,ι' (σ b)=ι b)→VR ι z im v u→VR ι' z im v' u
section ren
variable {σ : Nat → Nat}
theorem Ren.free {v:V} (h:Free v):Ren σ v v:=fun ι ι' z im u _ hv=>h _ _ _ _ _ hv
theorem Ren.ptr {b b' col:Nat} (h:σ b=b'):Ren σ (.ptr b col) (.ptr b' col):=fun ι ι' z im u hι hv=>by
 subst h
 cases hv with
 | ptr _ _ c hc=>exact .ptr _ _ c ((hι b).trans hc)
theorem Ren.osl {b b' sz row n:Nat} (h:σ b=b'):Ren σ (.osl b sz row n) (.osl b' sz row n):=fun ι ι' z im u hι hv=>by
 subst h
 cases hv with
 | osl _ _ _ _ c cap m hc hz he h1 h2=>exact .osl _ _ _ _ c cap m ((hι b).trans hc) hz he h1 h2
 | oslz _ _ _ A=>exact .oslz _ _ _ A
def RenL (σ:Nat→Nat):List V→List V→Prop
 | [],[]=>True
 | v :: r,v' :: r'=>Ren σ v v'∧RenL σ r r'
 | _,_=>False
theorem RenL.out:∀{cs cs':List V},RenL σ cs cs'→cs.length=cs'.length∧∀(j:Nat) (v v':V),cs[j]? = some v→cs'[j]? = some v'→Ren σ v v'
 | [],[],_=>⟨rfl,by simp⟩
 | v :: r,v' :: r',hh=>by
  obtain⟨h1,h2⟩:=RenL.out hh.2
  refine⟨by simp[h1],fun j a b ha hb=>?_⟩
  cases j with
  | zero=>simp at ha hb;subst ha;subst hb;exact hh.1
  | succ j=>exact h2 j a b (by simpa using ha) (by simpa using hb)
 | [],_ :: _,hh=>hh.elim
 | _ :: _,[],hh=>hh.elim
theorem RenL.free:∀{cs:List V},(∀v∈cs,Free v)→RenL σ cs cs
 | [],_=>trivial
 | v :: r,hf=>⟨.free (hf v (by simp)),RenL.free (fun v hv=>hf v (by simp[hv]))⟩
theorem Ren.agg {cs cs':List V} (h:RenL σ cs cs'):Ren σ (.agg cs) (.agg cs'):=fun ι ι' z im u hι hv=>by
 obtain⟨hl,hp⟩:=h.out
 cases hv with
 | agg _ us hl' h1=>
  refine .agg _ us (hl▸hl') fun j v' u hj hu=>?_
  have hlt:j < cs.length:=by rw[hl];exact(List.getElem?_eq_some_iff.1 hj).1
  exact hp j _ v' (List.getElem?_eq_getElem hlt) hj _ _ _ _ _ hι (h1 j _ u (List.getElem?_eq_getElem hlt) hu)
theorem Ren.tup {cs cs':List V} (h:RenL σ cs cs'):Ren σ (.tup cs) (.tup cs'):=fun ι ι' z im u hι hv=>by
 obtain⟨hl,hp⟩:=h.out
 cases hv with
 | tup _ us hl' h1=>
  refine .tup _ us (hl▸hl') fun j v' u hj hu=>?_
  have hlt:j < cs.length:=by rw[hl];exact(List.getElem?_eq_some_iff.1 hj).1
  exact hp j _ v' (List.getElem?_eq_getElem hlt) hj _ _ _ _ _ hι (h1 j _ u (List.getElem?_eq_getElem hlt) hu)
def RenR (σ:Nat→Nat):List (List V)→List (List V)→Prop
 | [],[]=>True
 | x :: r,y :: r'=>RenL σ x y∧RenR σ r r'
 | _,_=>False
theorem RenR.out:∀{xs ys:List (List V)},RenR σ xs ys→xs.map List.length=ys.map List.length∧RenL σ xs.flatten ys.flatten
 | [],[],_=>⟨rfl,trivial⟩
 | x :: r,y :: r',hh=>by
  obtain⟨h1,h2⟩:=RenR.out hh.2
  have app:∀{a a' b b':List V},RenL σ a a'→RenL σ b b'→RenL σ (a ++ b) (a' ++ b'):=by
   intro a
   induction a with
   | nil=>intro a' b b' ha hb;cases a' with
    | nil=>exact hb
    | cons _ _=>exact ha.elim
   | cons x a ih=>intro a' b b' ha hb;cases a' with
    | nil=>exact ha.elim
    | cons y a'=>exact⟨ha.1,ih ha.2 hb⟩
  exact⟨by simp[h1,(RenL.out hh.1).1],by rw[List.flatten_cons,List.flatten_cons];exact app hh.1 h2⟩
 | [],_ :: _,hh=>hh.elim
 | _ :: _,[],hh=>hh.elim
theorem RenR.free:∀{rows:List (List V)},(∀x∈rows,∀v∈x,Free v)→RenR σ rows rows
 | [],_=>trivial
 | x :: r,hf=>⟨RenL.free (hf x (by simp)),RenR.free (fun y hy=>hf y (by simp[hy]))⟩
def RenB (σ:Nat→Nat) (k:Blk):Blk→Prop
 | .var fr' ty' cells'=>match k with
  | .var fr ty cells=>fr'=fr∧ty'=ty∧RenL σ cells cells'
  | _=>False
 | .arr fr' ex' ty' sz' rows'=>match k with
  | .arr fr ex ty sz rows=>fr'=fr∧ex'=ex∧ty'=ty∧sz'=sz∧RenR σ rows rows'
  | _=>False
 | .map es'=>match k with
  | .map es=>es'=es∧∀kv∈es,Free kv.1∧Free kv.2
  | _=>False
 | _=>False
theorem RenB.arr {fr ex:Bool} {ty sz:Nat} {rows:List (List V)} (hf:∀x∈rows,∀v∈x,Free v):RenB σ (.arr fr ex ty sz rows) (.arr fr ex ty sz rows):=⟨rfl,rfl,rfl,rfl,.free hf⟩
theorem RenB.var {fr:Bool} {ty:Nat} {cells:List V} (hf:∀v∈cells,Free v):RenB σ (.var fr ty cells) (.var fr ty cells):=⟨rfl,rfl,.free hf⟩
theorem Holds.ren {G1 G':Gh} {w:World} (hι:∀b,G'.ι (σ b)=G1.ι b) (him:∀fr a u,imm G1 w fr a u→imm G' w fr a u) (hB:G'.B=G1.B) {b:Nat} {fr ex:Bool} {ty:TypeId} {vs vs':List V} (hr:RenL σ vs vs') (hh:Holds G1 w b fr ex ty vs):Holds G' w (σ b) fr ex ty vs':=by
 obtain⟨c,cs,h1,h2,h3,h4,h5,h6,h7⟩:=hh
 obtain⟨hl,hp⟩:=hr.out
 refine⟨c,cs,(hι b).trans h1,h2,by omega,fun he=>by rw[← hl];exact h4 he,fun hf=>by rw[hB];exact h5 hf,fun j v' hj=>?_,h7⟩
 have hlt:j < vs.length:=by rw[hl];exact(List.getElem?_eq_some_iff.1 hj).1
 obtain⟨u,hu,hone,hv⟩:=h6 j _ (List.getElem?_eq_getElem hlt)
 exact⟨u,hu,hone,hp j _ v' (List.getElem?_eq_getElem hlt) hj _ _ _ _ _ hι (VR.mono (fun _ _ h=>h) (fun _ _ h=>h) him hv)⟩
theorem RenB.ok {G1 G':Gh} {w:World} (hι:∀b,G'.ι (σ b)=G1.ι b) (him:∀fr a u,imm G1 w fr a u→imm G' w fr a u) (hB:G'.B=G1.B) {b:Nat} {k k':Blk} (hr:RenB σ k k') (hk:BlkOk G1 w b k):BlkOk G' w (σ b) k':=by
 cases k' with
 | var fr' ty' cells'=>
  cases k with
  | arr=>exact hr.elim
  | loop=>exact hr.elim
  | map=>exact hr.elim
  | iter=>exact hr.elim
  | var fr ty cells=>
   obtain⟨rfl,rfl,h3⟩:=hr
   exact Holds.ren hι him hB h3 hk
 | arr fr' ex' ty' sz' rows'=>
  cases k with
  | var=>exact hr.elim
  | loop=>exact hr.elim
  | map=>exact hr.elim
  | iter=>exact hr.elim
  | arr fr ex ty sz rows=>
   obtain⟨rfl,rfl,rfl,rfl,h5⟩:=hr
   obtain⟨hm,hfl⟩:=h5.out
   refine⟨fun x hx=>?_,?_⟩
   ·have:x.length∈rows'.map List.length:=List.mem_map_of_mem hx
    rw[← hm]at this
    obtain⟨y,hy,e⟩:=List.mem_map.1 this
    rw[← e];exact hk.1 y hy
   ·rcases hk.2 with⟨q1,q2⟩|q
    ·subst q2
     refine .inl ⟨(hι b).trans q1,List.eq_nil_of_length_eq_zero (by simpa using(congrArg List.length hm).symm)⟩
    ·exact .inr (Holds.ren hι him hB hfl q)
 | loop=>exact hr.elim
 | iter=>exact hr.elim
 | map es'=>
  cases k with
  | var=>exact hr.elim
  | arr=>exact hr.elim
  | loop=>exact hr.elim
  | iter=>exact hr.elim
  | map es=>
   obtain⟨rfl,hf⟩:=hr
   exact MapH.to hk (fun c h1=>(hι b).trans h1) (fun _ _=>rfl) rfl fun j kv kv' h1 h2=>by
    obtain rfl:=same_of h1 h2
    obtain⟨q1,q2⟩:=hf kv (List.mem_of_getElem? h1)
    exact⟨fun u hv=>q1 _ _ _ _ _ (VR.mono (ι':=G1.ι) (fun _ _ h=>h) (fun _ _ h=>h) him hv),fun u hv=>q2 _ _ _ _ _ (VR.mono (ι':=G1.ι) (fun _ _ h=>h) (fun _ _ h=>h) him hv)⟩
end ren
def frH (ρ:Nat→Nat) (n0 nx nx':Nat) (h h':Heap):Heap→Prop
 | []=>True
 | (b,some blk) :: r=>((∃b1,sig ρ n0 nx b1=b∧b1 < nx'∧∃k,hget h' b1=some k∧RenB (sig ρ n0 nx) k blk)∨((∀b1,b1 < n0→ρ b1 ≠ b)∧hget h b=some blk))∧frH ρ n0 nx nx' h h' r
 | (_,none) :: r=>frH ρ n0 nx nx' h h' r
theorem frH.out {ρ:Nat→Nat} {n0 nx nx':Nat} {h h':Heap}:∀{h2:Heap},frH ρ n0 nx nx' h h' h2→∀b blk,hget h2 b=some blk→(∃b1,sig ρ n0 nx b1=b∧b1 < nx'∧∃k,hget h' b1=some k∧RenB (sig ρ n0 nx) k blk)∨((∀b1,b1 < n0→ρ b1 ≠ b)∧hget h b=some blk)
 | [],_,b,k,hb=>by simp[hget]at hb
 | (i,none) :: r,hh,b,k,hb=>by
  rw[hget_cons]at hb
  split at hb
  ·cases hb
  ·exact frH.out (h2:=r) hh b k hb
 | (i,some blk) :: r,hh,b,k,hb=>by
  rw[hget_cons]at hb
  split at hb
  ·rename_i e;subst e;cases hb;exact hh.1
  ·exact frH.out hh.2 b k hb
theorem callV_frame {P:Program} {f:FuncId} {args args0:List V} {h h0:Heap} {nx n0:Nat} {R K:V→Heap→Nat→Prop} (ρ:Nat→Nat) (hc:CallV P f args0 h0 n0 R)
  (ha:LeL h nx ρ n0 [] args args0) (hh:LeH 0 h nx ρ n0 [] h0) (hlive:∀b,b < n0→hget h (ρ b) ≠ none) (hinj:∀b,b < n0→∀b',b' < n0→ρ b=ρ b'→b=b')
  (hK:∀v h' nx',R v h' nx'→n0≤nx'→∃v2 h2,Ren (sig ρ n0 nx) v v2∧frH ρ n0 nx nx' h h' h2∧K v2 h2 (nx + (nx' - n0))):CallV P f args h nx K:=by
 refine⟨hc.1,fun G w us hr hv=>?_⟩
 obtain⟨hr0,_⟩:=hh.ok hr
 refine(hc.2 _ w us hr0 (ha.vrs hr hv)).mono ?_
 rintro e w' ⟨u,v,h',nx',G1,rfl,hR,hv1,hr1,E,hle⟩
 obtain⟨v2,h2,hren,hfr,hK⟩:=hK v h' nx' hR hle
 classical
 have hto:∀b c,(G.to ρ n0 []).ι b=some c→b < n0∧G.ι (ρ b)=some c:=by
  intro b c hb
  simp only[Gh.to]at hb
  split at hb
  ·rename_i hlt;exact⟨hlt,hb⟩
  ·cases hb
 have hlt0:∀b,b < n0→ρ b < nx:=fun b hb=>by
  cases hg:hget h (ρ b)with
  | none=>exact absurd hg (hlive b hb)
  | some k=>exact hr.hdom _ k hg
 -- the ids of the caller
 let pre:Nat→Option Nat:=fun b=>(List.range n0).find? (fun b1=>ρ b1 == b)
 have hpre:∀b b1,pre b=some b1→b1 < n0∧ρ b1=b:=by
  intro b b1 hp
  have h1:=List.mem_of_find?_eq_some hp
  have h3:=List.find?_some hp
  exact⟨by simpa using h1,by simpa using h3⟩
 have hpre0:∀b,pre b=none→∀b1,b1 < n0→ρ b1 ≠ b:=by
  intro b hp b1 hb1 e
  have:=List.find?_eq_none.1 hp b1 (by simpa using hb1)
  simp[e]at this
 have hpre1:∀b1,b1 < n0→pre (ρ b1)=some b1:=by
  intro b1 hb1
  cases hp:pre (ρ b1)with
  | none=>exact absurd rfl (hpre0 _ hp b1 hb1)
  | some b2=>rw[hinj b2 (hpre _ _ hp).1 b1 hb1 (hpre _ _ hp).2]
 have hpren:∀b,nx≤b→pre b=none:=by
  intro b hb
  cases hp:pre b with
  | none=>rfl
  | some b2=>have:=hpre _ _ hp;have:=hlt0 b2 this.1;omega
 let ι':Nat→Option Nat:=fun b=>match pre b with
  | some b1=>G1.ι b1
  | none=>if b < nx then G.ι b else if b - nx + n0 < nx' then G1.ι (b - nx + n0)else none
 let G':Gh:=⟨ι',G1.amb,G.B⟩
 have hB:G1.B=G.B:=E.B
 have hι:∀b,G'.ι (sig ρ n0 nx b)=G1.ι b:=by
  intro b
  show(match pre (sig ρ n0 nx b)with|some b1=>G1.ι b1|none=>if sig ρ n0 nx b < nx then G.ι (sig ρ n0 nx b)else if sig ρ n0 nx b - nx + n0 < nx' then G1.ι (sig ρ n0 nx b - nx + n0)else none)=_
  rcases Nat.lt_or_ge b n0 with hlt|hge
  ·have e:sig ρ n0 nx b=ρ b:=by simp[sig,hlt]
   rw[e,hpre1 b hlt]
  ·have e:sig ρ n0 nx b=nx + (b - n0):=by simp[sig,Nat.not_lt.2 hge]
   rw[e,hpren _ (by omega)]
   simp only
   rw[if_neg (by omega),show nx + (b - n0) - nx + n0=b by omega]
   split
   ·rfl
   ·rename_i hge;exact(hr1.dom b (by omega)).symm
 have hιk:∀b,pre b=none→b < nx→G'.ι b=G.ι b:=by
  intro b hp hb
  show(match pre b with|some b1=>G1.ι b1|none=>if b < nx then G.ι b else if b - nx + n0 < nx' then G1.ι (b - nx + n0)else none)=_
  rw[hp]
  simp[hb]
 have hιold:∀b c,G.ι b=some c→G'.ι b=some c:=by
  intro b c hc
  have hb:b < nx:=by
   rcases Nat.lt_or_ge b nx with h1|h1
   ·exact h1
   ·rw[hr.dom b h1]at hc;cases hc
  cases hp:pre b with
  | none=>rw[hιk b hp hb];exact hc
  | some b1=>
   obtain⟨h1,h3⟩:=hpre b b1 hp
   show(match pre b with|some b1=>G1.ι b1|none=>if b < nx then G.ι b else if b - nx + n0 < nx' then G1.ι (b - nx + n0)else none)=_
   rw[hp]
   refine E.ids b1 c h1 ?_
   simp only[Gh.to,h1,if_true,h3]
   exact hc
 -- where an id of the caller's comes from
 have hfrom:∀b c,G'.ι b=some c→(∃b1,sig ρ n0 nx b1=b∧G1.ι b1=some c)∨(pre b=none∧b < nx∧G.ι b=some c):=by
  intro b c hc
  cases hp:pre b with
  | some b1=>
   obtain⟨h1,h3⟩:=hpre b b1 hp
   refine .inl ⟨b1,by simp[sig,h1,h3],?_⟩
   rw[← hι b1,show sig ρ n0 nx b1=b by simp[sig,h1,h3]]
   exact hc
  | none=>
   rcases Nat.lt_or_ge b nx with hb|hb
   ·exact .inr ⟨rfl,hb,by rw[← hιk b hp hb];exact hc⟩
   ·have e:sig ρ n0 nx (b - nx + n0)=b:=by
     unfold sig
     rw[if_neg (by omega)]
     omega
    refine .inl ⟨b - nx + n0,e,?_⟩
    rw[← hι,e]
    exact hc
 have hidn1:∀b1 c,G1.ι b1=some c→c < w.heap.size→∃b0,b0 < n0∧G.ι (ρ b0)=some c:=by
  intro b1 c hc hlt
  obtain⟨b0,hb0⟩:=E.idn b1 c hc hlt
  exact⟨b0,hto b0 c hb0⟩
 have ham:∀c,G1.amb c→c < w.heap.size→G.amb c∨∃b0,b0 < n0∧G.ι (ρ b0)=some c:=by
  intro c hc hlt
  rcases E.ambn c hc hlt with(h1|⟨_,h1,_⟩)|⟨b,h1⟩
  ·exact .inl h1
  ·simp at h1
  ·exact .inr ⟨b,hto b c h1⟩
 have he:EvoA G w G' w':=fun base=>⟨E.os,E.tape,E.output,E.size,rfl,fun c hc=>E.amb c (.inl hc),fun c hc=>E.keep c (.inl hc),E.csz,fun b c _ hc=>hιold b c hc,
  fun c hc hn=>E.keepu c hc (fun b hb=>hn _ (hto b c hb).2),
  fun c hc hlt=>(ham c hc hlt).imp_right (fun⟨b0,_,h1⟩=>⟨_,h1⟩),fun b c hc hlt=>by
   rcases hfrom b c hc with⟨b1,_,h3⟩|⟨_,_,h3⟩
   ·obtain⟨b0,_,h4⟩:=hidn1 b1 c h3 hlt;exact⟨_,h4⟩
   ·exact⟨b,h3⟩⟩
 have him:∀fr a u,imm G1 w' fr a u→imm G' w' fr a u:=fun fr a u hi=>⟨hi.1,hi.2.1,fun hf=>by have:=hi.2.2.1 hf;rw[hB]at this;exact this,hi.2.2.2⟩
 have hrest:∀b c,(∀b1,b1 < n0→ρ b1 ≠ b)→∀k,hget h b=some k→G.ι b=some c→∀b0,b0 < n0→G.ι (ρ b0) ≠ some c:=by
  intro b c hne k hk hc b0 hb0 h0
  cases hg:hget h (ρ b0)with
  | none=>exact hlive b0 hb0 hg
  | some k'=>exact hne b0 hb0 (hr.inj _ _ k' k c hg hk h0 hc)
 refine⟨u,v2,h2,nx + (nx' - n0),G',rfl,hK,hren _ _ _ _ _ hι (VR.mono (fun _ _ h=>h) (fun _ _ h=>h) him hv1),⟨hr1.amb_lt,Nat.le_trans hr.B_le E.size,fun b hb=>?_,fun b blk hb=>?_,fun b1 b2 k1 k2 c h1 h3 h4 h5=>?_,fun b blk c hb hc hacc=>?_,fun b c hc=>?_,fun b blk hb=>?_,hr.gl.evo (he 0)⟩,he nx,by omega⟩
 ·show(match pre b with|some b1=>G1.ι b1|none=>if b < nx then G.ι b else if b - nx + n0 < nx' then G1.ι (b - nx + n0)else none)=_
  rw[hpren b (by omega)]
  simp only
  rw[if_neg (by omega),if_neg (by omega)]
 ·rcases hfr.out b blk hb with⟨b1,rfl,_,k,hk,hrb⟩|⟨hne,hk⟩
  ·exact hrb.ok hι him hB.symm (hr1.own b1 k hk)
  ·refine(hr.own b blk hk).keep he (fun c hc=>E.keepu c (hr.lt b c hc) (fun b1 hb1=>?_)) (fun hn=>?_)
   ·obtain⟨q1,q2⟩:=hto b1 c hb1
    exact hrest b c hne blk hk hc b1 q1 q2
   ·have hb':=hr.hdom b blk hk
    have hp:pre b=none:=by
     cases hp:pre b with
     | none=>rfl
     | some b1=>exact absurd (hpre b b1 hp).2 (hne b1 (hpre b b1 hp).1)
    rw[hιk b hp hb'];exact hn
 ·rcases hfr.out b1 k1 h1 with⟨a1,rfl,_,q1,hq1,_⟩|⟨hne1,hk1⟩<;>rcases hfr.out b2 k2 h3 with⟨a2,rfl,_,q2,hq2,_⟩|⟨hne2,hk2⟩
  ·rw[hι]at h4 h5
   rw[hr1.inj a1 a2 q1 q2 c hq1 hq2 h4 h5]
  ·rw[hι]at h4
   have hg:=hfrom b2 c h5
   have hb2:=hr.hdom b2 k2 hk2
   rcases hg with⟨a2,rfl,h6⟩|⟨_,_,h6⟩
   ·exact congrArg _ (by
     have:a2 < n0∨n0≤a2:=Nat.lt_or_ge a2 n0
     rcases this with h7|h7
     ·exact absurd (by simp[sig,h7]) (hne2 a2 h7)
     ·simp[sig,Nat.not_lt.2 h7]at hb2;omega)
   ·obtain⟨b0,hb0,h7⟩:=hidn1 a1 c h4 (hr.lt b2 c h6)
    exact absurd h7 (hrest b2 c hne2 k2 hk2 h6 b0 hb0)
  ·rw[hι]at h5
   have hg:=hfrom b1 c h4
   have hb2:=hr.hdom b1 k1 hk1
   rcases hg with⟨a2',rfl,h6⟩|⟨_,_,h6⟩
   ·exact congrArg _ (by
     have:a2' < n0∨n0≤a2':=Nat.lt_or_ge a2' n0
     rcases this with h7|h7
     ·exact absurd (by simp[sig,h7]) (hne1 a2' h7)
     ·simp[sig,Nat.not_lt.2 h7]at hb2;omega)
   ·obtain⟨b0,hb0,h7⟩:=hidn1 a2 c h5 (hr.lt b1 c h6)
    exact absurd h7 (hrest b1 c hne1 k1 hk1 h6 b0 hb0)
  ·have e1:G.ι b1=some c:=by
    rcases hfrom b1 c h4 with⟨a2,rfl,h6⟩|⟨_,_,h6⟩
    ·have hb2:=hr.hdom _ k1 hk1
     rcases Nat.lt_or_ge a2 n0 with h7|h7
     ·exact absurd (by simp[sig,h7]) (hne1 a2 h7)
     ·simp[sig,Nat.not_lt.2 h7]at hb2;omega
    ·exact h6
   have e2:G.ι b2=some c:=by
    rcases hfrom b2 c h5 with⟨a2,rfl,h6⟩|⟨_,_,h6⟩
    ·have hb2:=hr.hdom _ k2 hk2
     rcases Nat.lt_or_ge a2 n0 with h7|h7
     ·exact absurd (by simp[sig,h7]) (hne2 a2 h7)
     ·simp[sig,Nat.not_lt.2 h7]at hb2;omega
    ·exact h6
   exact hr.inj b1 b2 k1 k2 c hk1 hk2 e1 e2
 ·rcases hfr.out b blk hb with⟨b1,rfl,_,k,hk,_⟩|⟨hne,hk⟩
  ·rw[hι]at hc
   exact hr1.apart b1 k c hk hc hacc
  ·have e1:G.ι b=some c:=by
    rcases hfrom b c hc with⟨a2,rfl,h6⟩|⟨_,_,h6⟩
    ·have hb2:=hr.hdom _ blk hk
     rcases Nat.lt_or_ge a2 n0 with h7|h7
     ·exact absurd (by simp[sig,h7]) (hne a2 h7)
     ·simp[sig,Nat.not_lt.2 h7]at hb2;omega
    ·exact h6
   rcases ham c hacc (hr.lt b c e1)with h6|⟨b0,hb0,h6⟩
   ·exact hr.apart b blk c hk e1 h6
   ·exact hrest b c hne blk hk e1 b0 hb0 h6
 ·rcases hfrom b c hc with⟨b1,_,h6⟩|⟨_,_,h6⟩
  ·exact hr1.lt b1 c h6
  ·exact Nat.lt_of_lt_of_le (hr.lt b c h6) E.size
 ·rcases hfr.out b blk hb with⟨b1,rfl,hlt,k,hk,_⟩|⟨hne,hk⟩
  ·unfold sig
   split
   ·rename_i h7;have:=hlt0 b1 h7;omega
   ·omega
  ·have:=hr.hdom b blk hk;omega
end
section
abbrev FreeI (v:V):Prop:=Nonempty (PLift (Free v))
abbrev FreeLI (l:List V):Prop:=Nonempty (PLift (∀v∈l,Free v))
abbrev FreeRI (l:List (List V)):Prop:=Nonempty (PLift (∀x∈l,∀v∈x,Free v))
instance {k n}:FreeI (.int k n):=⟨⟨.int⟩⟩
instance {b}:FreeI (.bool b):=⟨⟨.bool⟩⟩
instance {b}:FreeI (.str b):=⟨⟨.str⟩⟩
instance:FreeI .any:=⟨⟨.any⟩⟩
instance:FreeI .snil:=⟨⟨.snil⟩⟩
instance:FreeI .nilp:=⟨⟨.nilp⟩⟩
instance:FreeI .nilf:=⟨⟨.nilf⟩⟩
instance:FreeI .nili:=⟨⟨.nili⟩⟩
instance {fr b}:FreeI (encB fr b):=⟨⟨encB_free _ _⟩⟩
instance {fr b}:FreeI (encW fr b):=⟨⟨encW_free _ _⟩⟩
instance {b:List UInt8}:FreeRI (b.map fun x=>[V.int .u8 x.toNat]):=⟨⟨rowsB_free b⟩⟩
instance {b:List UInt32}:FreeRI (b.map fun x=>[V.int .u32 x.toNat]):=⟨⟨rowsW_free b⟩⟩
instance:FreeRI []:=⟨⟨by simp⟩⟩
instance:FreeLI []:=⟨⟨by simp⟩⟩
instance {v l} [h:FreeI v] [hl:FreeLI l]:FreeLI (v :: l):=⟨⟨fun w hw=>by
 rcases List.mem_cons.1 hw with rfl|hw
 ·exact h.elim fun p=>p.down
 ·exact hl.elim fun p=>p.down w hw⟩⟩
instance {x r} [h:FreeLI x] [hl:FreeRI r]:FreeRI (x :: r):=⟨⟨fun w hw=>by
 rcases List.mem_cons.1 hw with rfl|hw
 ·exact h.elim fun p=>p.down
 ·exact hl.elim fun p=>p.down w hw⟩⟩
instance {l} [h:FreeLI l]:FreeI (.agg l):=⟨⟨.agg (h.elim fun p=>p.down)⟩⟩
instance {l} [h:FreeLI l]:FreeI (.tup l):=⟨⟨.tup (h.elim fun p=>p.down)⟩⟩
instance {fr l} [h:FreeLI l]:FreeI (.iptr fr l):=⟨⟨.iptr (h.elim fun p=>p.down)⟩⟩
instance {fr sz l} [h:FreeRI l]:FreeI (.sl fr sz l):=⟨⟨.sl (h.elim fun p=>p.down)⟩⟩
instance {f a b} [h:FreeLI a] [k:FreeLI b]:FreeI (.fn f a b):=⟨⟨.fn (h.elim fun p=>p.down) (k.elim fun p=>p.down)⟩⟩
theorem FreeI.out {v:V} [h:FreeI v]:Free v:=h.elim fun p=>p.down
section
variable {h : Heap} {nx nx' : Nat} {ρ : Nat → Nat} {Z : List Nat}
theorem LeV.fr {v v':V} [i:FreeI v'] (e:v=v'):LeV h nx ρ nx' Z v v':=by subst e;exact .free (i.elim fun p=>p.down)
theorem LHa {p:Prop} (h:p:=by first|exact True.intro|exact id|exact rfl|decide|exact Nat.le_of_ble_eq_true rfl):p:=h
theorem LeV.A {v v':V} (p:LeV h nx ρ nx' Z v v':=by first|exact .ptr rfl (by omega)|exact .osl_of rfl (by omega) rfl|exact .fr rfl|exact .yld rfl (by omega)|exact .eptr rfl (by omega)|exact .osl0|exact .snil_sl|exact .to_any):LeV h nx ρ nx' Z v v':=p
theorem LeL.fr {l l':List V} [i:FreeLI l'] (e:l=l'):LeL h nx ρ nx' Z l l':=by subst e;exact .freeV (i.elim fun p=>p.down)
theorem LeB.fr {f f' ex ex':Bool} {ty sz:Nat} {r r':List (List V)} [i:FreeRI r'] (e:r=r') (h1:f'=true→f=true) (h2:ex'=true→ex=true):LeB h nx ρ nx' Z (.arr f ex ty sz r) (.arr f' ex' ty sz r'):=by
 subst e;exact .arrE rfl (i.elim fun p=>p.down) h1 h2
theorem LHb {b b':Blk} (p:LeB h nx ρ nx' Z b b':=by first|exact LeB.fr rfl id id|exact LeB.fr (by simp;done) id id):LeB h nx ρ nx' Z b b':=p
end
theorem Wk.all {base N:Nat} {s:St} {t':List (Nat × V)} {h':Heap} {nx':Nat} (ρ:Nat→Nat) (Z:List Nat) (ht:leT s.h s.nx s.t ρ nx' Z t'∧leHL s.h s.nx ρ nx' Z h') (hi:∀b∈h'.map Prod.fst,∀b'∈h'.map Prod.fst,ρ b=ρ b'→b=b') (hl:∀b,b < base→ρ b=b) (hn:base≤nx') (hz:∀z,z∈Z→hget s.h z ≠ none):Wk base N s ⟨t',h',nx'⟩:=
 Wk.of ρ Z ht.1 (LeH.of ht.2 hi hl hn hz)
theorem Wk.i {base N:Nat} {s:St} {t':List (Nat × V)} {h':Heap} {nx':Nat} (ht:leT s.h s.nx s.t id nx' [] t'∧leHL s.h s.nx id nx' [] h') (hn:base≤nx'):Wk base N s ⟨t',h',nx'⟩:=
 Wk.all id [] ht (fun _ _ _ _ h=>h) (fun _ _=>rfl) hn (by simp)
theorem Ends.all {base:Nat} {s:St} {v v':V} {h':Heap} {nx':Nat} (ρ:Nat→Nat) (Z:List Nat) (ht:LeV s.h s.nx ρ nx' Z v v'∧leHL s.h s.nx ρ nx' Z h') (hi:∀b∈h'.map Prod.fst,∀b'∈h'.map Prod.fst,ρ b=ρ b'→b=b') (hl:∀b,b < base→ρ b=b) (hn:base≤nx') (hz:∀z,z∈Z→hget s.h z ≠ none):Ends base s v v' h' nx':=
 Ends.of ρ Z ht.1 (LeH.of ht.2 hi hl hn hz)
theorem Ends.pA {s:St} {v v':V} (h:LeV s.h s.nx id 0 [] v v':=by exact .A):∃v1 h' nx',Ends 0 s v v1 h' nx'∧(v1=v'∧h'=[]∧nx'=0):=Ends.pure [] h (by simp)
theorem LeH.i {base:Nat} {h h':Heap} {nx nx':Nat} {Z:List Nat} (hb:leHL h nx id nx' Z h') (hn:base≤nx') (hz:∀z,z∈Z→hget h z ≠ none):LeH base h nx id nx' Z h':=LeH.of hb (fun _ _ _ _ h=>h) (fun _ _=>rfl) hn hz
end
structure Back (w0 w:World):Prop where
 os:w.os=w0.os
 tape:w.tape=w0.tape
 output:w.output=w0.output
 size:w0.heap.size≤w.heap.size
 keep:∀c,c < w0.heap.size→w.heap[c]? = w0.heap[c]?
theorem Back.refl (w:World):Back w w:=⟨rfl,rfl,rfl,Nat.le_refl _,fun _ _=>rfl⟩
theorem Back.trans {w0 w1 w2:World} (h:Back w0 w1) (k:Back w1 w2):Back w0 w2:=
 ⟨k.os.trans h.os,k.tape.trans h.tape,k.output.trans h.output,Nat.le_trans h.size k.size,fun c hc=>(k.keep c (Nat.lt_of_lt_of_le hc h.size)).trans (h.keep c hc)⟩
theorem Back.evo {G:Gh} {w0 w:World} (h:Back w0 w) (hlt:∀c,G.amb c→c < w0.heap.size):EvoA G w0 G w:=fun base=>
 ⟨h.os,h.tape,h.output,h.size,rfl,fun _ hc=>hc,fun c hc=>h.keep c (hlt c hc),fun c m hm=>by
  have hc:c < w0.heap.size:=by
   unfold csz at hm
   cases hg:w0.heap[c]? with
   | none=>rw[hg]at hm;cases hm
   | some o=>exact(Array.getElem?_eq_some_iff.1 hg).1
  unfold csz at hm ⊢
  rw[h.keep c hc]
  exact hm,fun _ _ _ hb=>hb,fun c hc _=>h.keep c hc,fun c hc _=>.inl hc,fun b c hb _=>⟨b,hb⟩⟩
section
section
variable {P : Program} {T : Tab} {F : Fence} {N : Nat}
def Gok (G:Gh):Prop:=(∀b c,G.ι b=some c→G.B≤c)∧∀p∈glob,p.1 < G.B
theorem gok_evo {base nx:Nat} {G G':Gh} {h:Heap} {w w':World} (he:Evo base G w G' w') (hr:HR G h nx w) (hk:Gok G):Gok G':=⟨fun b c hb=>by
 rw[he.B]
 rcases Nat.lt_or_ge c w.heap.size with hlt|hge
 ·obtain⟨b',hb'⟩:=he.idn b c hb hlt
  exact hk.1 b' c hb'
 ·exact Nat.le_trans hr.B_le hge,fun p hp=>by rw[he.B];exact hk.2 p hp⟩
def PostH (N B:Nat) (w:World) (D:List Deferred) (Q:Ex→St→Prop) (e:Exit) (a':Act) (w':World):Prop:=
 ∃e' s' G',e=e'.to∧Q e' s'∧Sim G' N s' a' w'∧Gok G'∧G'.B=B∧Below B w w'∧a'.defers=D
def VH (P:Program) (F:Fence) (N:Nat) (c:Code) (s:St) (Q:Ex→St→Prop):Prop:=
 ∀(n:Nat) (G:Gh) (a:Act) (w:World),Sim G N s a w→Gok G→c.wpIn F n P (PostH N G.B w a.defers Q) a w
theorem VH.mono {c:Code} {s:St} {Q Q':Ex→St→Prop} (h:VH P F N c s Q) (hq:∀e s,Q e s→Q' e s):VH P F N c s Q':=
 fun n G a w hs hk=>wpIn_mono (h n G a w hs hk) fun e a' w' ⟨e',s',G',h1,h2,h3⟩=>⟨e',s',G',h1,hq _ _ h2,h3⟩
theorem Wk.h {base:Nat} {s s':St} (hw:Wk base N s s') (hb:base≤s.nx) {G:Gh} {a:Act} {w:World} (hs:Sim G N s a w) (hk:Gok G):∃G',Sim G' N s' a w∧Gok G'∧G'.B=G.B:=by
 obtain⟨G',hs',he,_⟩:=hw G a w hs hb
 exact⟨G',hs',gok_evo he hs.hr hk,he.B⟩
structure Ch (w w':World) (ad:Addr) (u:Value):Prop where
 os:w'.os=w.os
 tape:w'.tape=w.tape
 output:w'.output=w.output
 size:w'.heap.size=w.heap.size
 other:∀c,c ≠ ad.block→w'.heap[c]? = w.heap[c]?
 cell:∀p,w'.cell? p=if p=ad then some u else w.cell? p
 frozen:∀p,w'.frozen? p=w.frozen? p
 csz:∀c m,csz w c=some m→csz w' c=some m
theorem ch_setCell {w:World} {ad:Addr} {u u0:Value} (h:w.cell? ad=some u0):Ch w (w.setCell ad u) ad u:=by
 have hs:ad.spot=none:=by
  unfold World.cell? at h
  split at h
  ·split at h
   ·cases h
   ·rename_i hn;simpa using hn
  ·cases h
 obtain⟨b,o,sp⟩:=ad
 simp only at hs
 subst hs
 have hat:∀c,(w.setCell ⟨b,o,none⟩ u).heap[c]? = if b=c then(w.heap[c]?).map (fun|.cells c' elem frozen=>.cells (c'.setIfInBounds o u) elem frozen|x=>x)else w.heap[c]?:=by
  intro c
  simp only[World.setCell,Array.getElem?_modify]
  split<;>rfl
 refine⟨rfl,rfl,rfl,by simp[World.setCell],fun c hc=>?_,fun p=>?_,fun p=>?_,fun c m hm=>?_⟩
 ·rw[hat,if_neg (fun e=>hc e.symm)]
 ·unfold World.cell? at h ⊢
  rw[hat]
  by_cases e:b=p.block
  ·rw[if_pos e]
   subst e
   obtain⟨pb,po,ps⟩:=p
   simp only at h ⊢
   cases hg:w.heap[pb]? with
   | none=>rw[hg]at h;cases h
   | some ob=>
    rw[hg]at h
    cases ob with
    | cells cs t fz=>
     simp only[Option.isSome_none,Bool.false_eq_true,if_false]at h
     simp only[Option.map_some]
     have hlt:o < cs.size:=(Array.getElem?_eq_some_iff.1 h).1
     cases ps with
     | some x=>simp
     | none=>
      simp only[Option.isSome_none,Bool.false_eq_true,if_false,Addr.mk.injEq,true_and,and_true]
      by_cases eo:po=o
      ·subst eo;rw[Array.getElem?_setIfInBounds_self_of_lt hlt];simp
      ·rw[Array.getElem?_setIfInBounds_ne (fun h=>eo h.symm)];simp[eo]
    | _=>simp at h
  ·rw[if_neg e]
   have:¬ p=⟨b,o,none⟩:=fun h=>e (by rw[h])
   rw[if_neg this]
 ·unfold World.frozen?
  rw[hat]
  by_cases e:b=p.block
  ·rw[if_pos e]
   cases hg:w.heap[p.block]? with
   | none=>rfl
   | some ob=>cases ob<;>rfl
  ·rw[if_neg e]
 ·unfold csz at hm ⊢
  rw[hat]
  by_cases e:b=c
  ·rw[if_pos e]
   cases hg:w.heap[c]? with
   | none=>rw[hg]at hm;cases hm
   | some ob=>rw[hg]at hm;cases ob<;>simp at hm ⊢<;>exact hm
  ·rw[if_neg e];exact hm
end
end
section
section
variable {P : Program} {T : Tab} {F : Fence} {N : Nat}
def Gh.all (w:World):Gh:=⟨fun _=>none,fun c=>c < w.heap.size,w.heap.size⟩
theorem GlOk.all {G:Gh} {h:Heap} {nx:Nat} {w:World} (hr:HR G h nx w):GlOk (Gh.all w) w:=fun p hp=>⟨hr.amb_lt _ (hr.gl p hp).1,(hr.gl p hp).2⟩
theorem HR.all {G:Gh} {h:Heap} {nx:Nat} {w:World} (hr:HR G h nx w):HR (Gh.all w) [] 0 w:=
 ⟨fun _ h=>h,Nat.le_refl _,fun _ _=>rfl,fun b blk h=>by simp[hget]at h,fun b b' k k' c h=>by simp[hget]at h,fun b k c h=>by simp[hget]at h,(fun b c h=>by cases h),fun b k h=>by simp[hget]at h,GlOk.all hr⟩
theorem Gok.all {G:Gh} {h:Heap} {nx:Nat} {w:World} (hr:HR G h nx w):Gok (Gh.all w):=⟨(fun b c h=>by cases h),fun p hp=>hr.amb_lt _ (hr.gl p hp).1⟩
inductive Scalar:V→Prop
 | int {k n}:Scalar (.int k n)
 | bool {b}:Scalar (.bool b)
theorem Scalar.vr {v:V} (h:Scalar v) {G G':Gh} {w w':World} {u:Value} (hv:vr G w v u):vr G' w' v u:=by
 cases h<;>cases hv<;>constructor
def allF (w:World) (a:Act):List (Nat × V)→Prop
 | []=>True
 | (i,v) :: r=>vr (Gh.all w) w v (a.tmps.getD i undef)∧allF w a r
theorem allF.out {w:World} {a:Act}:∀{t:List (Nat × V)},allF w a t→∀i,vr (Gh.all w) w (look t i) (a.tmps.getD i undef)
 | [],_,i=>.any _
 | (j,v) :: r,h,i=>by
  have e:look ((j,v) :: r) i=if j=i then v else look r i:=by
   have:=get_put r [] [] 0 0 j v i
   simpa[St.get]using this
  rw[e]
  by_cases hij:j=i
  ·subst hij;rw[if_pos rfl];exact h.1
  ·rw[if_neg hij];exact allF.out h.2 i
def kept (s t:List (Nat × V)) (u:Nat→Value):List (Nat × V)→Prop
 | []=>True
 | (i,v) :: r=>((Scalar v∧look s i=v)∨(v=look t i∧∃v',look s i=.pin (u i) v'))∧kept s t u r
theorem kept.out {s t:List (Nat × V)} {u:Nat→Value}:∀{t2:List (Nat × V)},kept s t u t2→∀i,look t2 i=.any∨(Scalar (look t2 i)∧look s i=look t2 i)∨(look t2 i=look t i∧∃v,look s i=.pin (u i) v)
 | [],_,i=>.inl rfl
 | (j,v) :: r,h,i=>by
  have e:look ((j,v) :: r) i=if j=i then v else look r i:=by
   have:=get_put r [] [] 0 0 j v i
   simpa[St.get]using this
  rw[e]
  by_cases hij:j=i
  ·subst hij
   rw[if_pos rfl]
   rcases h.1 with⟨h1,h2⟩|⟨h1,h2⟩
   ·exact .inr (.inl ⟨h1,h2⟩)
   ·exact .inr (.inr ⟨h1,h2⟩)
  ·rw[if_neg hij]
   exact kept.out h.2 i
end
end
def Gh.more (G:Gh) (w w':World):Gh:=⟨G.ι,fun c=>G.amb c∨(w.heap.size≤c∧c < w'.heap.size),G.B⟩
theorem pcon_calls {P:Program} {f:FuncId} {fn:Func} {args:List V} {v:V} (hf:P.funcs[f]? = some fn) (hb:fn.body.isSome=true) (hn:fn.name ≠ "runtime.NumGoroutine")
  (hc:∀(G:Gh) (w:World) (us:List Value),HR G [] 0 w→vrs G w args us→Calls P f us.toArray w fun e w'=>∃u,e=.returned u∧Below w.heap.size w w'∧vr (G.more w w') w' v u):PCon P f args v:=by
 refine⟨⟨fn,hf⟩,fun G w us hr hv=>.inl ⟨⟨fn,hf,hb,hn⟩,(hc G w us hr hv).mono ?_⟩⟩
 rintro e w' ⟨u,rfl,hB,hu⟩
 have hn0:∀b,G.ι b=none:=fun b=>hr.dom b (Nat.zero_le _)
 refine⟨u,v,[],0,G.more w w',rfl,⟨rfl,rfl,rfl⟩,hu,⟨fun c hc=>?_,Nat.le_trans hr.B_le hB.size,(fun b _=>hn0 b),fun b blk h=>by simp[hget]at h,fun b b' k k' c h=>by simp[hget]at h,fun b k c h=>by simp[hget]at h,fun b c h=>(by simp[Gh.more,hn0]at h),fun b k h=>by simp[hget]at h,
  hr.gl.to (fun c h=>.inl h) (fun c h=>hB.block c (hr.amb_lt c h))⟩,
  ⟨hB.os,hB.tape,hB.output,hB.size,rfl,fun c h=>.inl h,fun c h=>hB.block c (hr.amb_lt c h),fun c m h=>?_,fun b c h=>(by omega),fun c h _=>hB.block c h,fun c h hlt=>.inl (h.resolve_right fun h'=>by omega),fun b c h=>(by simp[Gh.more,hn0]at h)⟩,Nat.le_refl _⟩
 ·rcases hc with hc|hc
  ·exact Nat.lt_of_lt_of_le (hr.amb_lt c hc) hB.size
  ·exact hc.2
 ·have hlt:c < w.heap.size:=by
   unfold csz at h
   split at h
   ·rename_i e
    exact(Array.getElem?_eq_some_iff.1 e).1
   ·cases h
  unfold csz at h ⊢
  rw[hB.block c hlt]
  exact h
theorem vrs_one {G:Gh} {w:World} {v:V} {us:List Value} (h:vrs G w [v] us):∃u,us=[u]∧vr G w v u:=by
 obtain⟨hl,hv⟩:=h
 match us,hl with
 | [u],_=>exact⟨u,rfl,hv 0 _ u rfl rfl⟩
theorem vrs_two {G:Gh} {w:World} {v v':V} {us:List Value} (h:vrs G w [v,v'] us):∃u u',us=[u,u']∧vr G w v u∧vr G w v' u':=by
 obtain⟨hl,hv⟩:=h
 match us,hl with
 | [u,u'],_=>exact⟨u,u',rfl,hv 0 _ u rfl rfl,hv 1 _ u' rfl rfl⟩
section
section
variable {h : Heap} {nx nx' : Nat} {ρ : Nat → Nat} {Z : List Nat}
theorem LeV.mapp {b b':Nat} (hb:ρ b'=b) (hn:b' < nx'):LeV h nx ρ nx' Z (.mapp b) (.mapp b'):=fun G w u hr hv=>by
 cases hv with
 | mapp _ c hc=>exact .mapp _ c (by simp[Gh.to,hn,hb,hc])
theorem Free.nilm:Free .nilm:=fun _ _ _ _ _ h=>by cases h;exact .nilm
theorem Fresh.nilm:Fresh .nilm:=fun _ _ _ _ _ _ h=>by cases h;exact .nilm
theorem Cold.nilm:Cold .nilm:=fun _ _ _ _ _ _ h=>by cases h;exact .nilm
theorem Free.imap {fr:Bool} {es:List (V × V)} (hf:∀kv∈es,Free kv.1∧Free kv.2):Free (.imap fr es):=fun _ _ _ _ _ hv=>by
 cases hv with
 | imap _ _ c arr clk h1 h2 h3 h4 h5=>
  exact .imap _ _ c arr clk h1 h2 h3 (fun j kv e q1 q2=>(hf kv (List.mem_of_getElem? q1)).1 _ _ _ _ _ (h4 j kv e q1 q2)) (fun j kv e q1 q2=>(hf kv (List.mem_of_getElem? q1)).2 _ _ _ _ _ (h5 j kv e q1 q2))
theorem Cold.imap {es:List (V × V)} (hf:∀kv∈es,Cold kv.1∧Cold kv.2):Cold (.imap false es):=fun _ _ _ _ _ hi hv=>by
 cases hv with
 | imap _ _ c arr clk h1 h2 h3 h4 h5=>
  exact .imap _ _ c arr clk (hi _ _ h1) h2 h3 (fun j kv e q1 q2=>(hf kv (List.mem_of_getElem? q1)).1 _ _ _ _ _ hi (h4 j kv e q1 q2)) (fun j kv e q1 q2=>(hf kv (List.mem_of_getElem? q1)).2 _ _ _ _ _ hi (h5 j kv e q1 q2))
theorem LeV.freezeM {b:Nat} {es es':List (V × V)} (hz:b∈Z) (hb:hget h b=some (.map es)) (e:es=es') (hf:∀kv∈es,Free kv.1∧Free kv.2):LeV h nx ρ nx' Z (.mapp b) (.imap false es'):=by
 subst e
 intro G w u hr hv
 cases hv with
 | mapp _ c hc=>
  obtain⟨c',arr,clk,h1,hh,hok,hl,hk⟩:MapH G w b es:=hr.own b _ hb
  rw[hc]at h1
  obtain rfl:=Option.some.inj h1
  have up:∀{v:V} {x:Value},Free v→vr G w v x→vr (G.to ρ nx' Z) w v x:=fun hfv hx=>
   hfv _ _ _ _ _ (VR.mono (ι:=G.ι) (ι':=G.ι) (imm':=imm (G.to ρ nx' Z) w) (fun _ _ h=>h) (fun _ _ h=>h) (fun _ _ _ hi=>⟨hi.1,.inl hi.2.1,hi.2.2.1,hi.2.2.2⟩) hx)
  exact .imap false es c arr clk ⟨rd_map.2 hh,.inr ⟨b,hz,hc⟩,(fun h=>by cases h),(fun h=>by cases h)⟩ hok hl
   (fun j kv e q1 q2=>up (hf kv (List.mem_of_getElem? q1)).1 (hk j kv e q1 q2).1) (fun j kv e q1 q2=>up (hf kv (List.mem_of_getElem? q1)).2 (hk j kv e q1 q2).2)
theorem LeB.map {es es':List (V × V)} (e:es=es') (hf:∀kv∈es,Free kv.1∧Free kv.2):LeB h nx ρ nx' Z (.map es) (.map es'):=by
 subst e
 exact⟨rfl,fun j kv kv' h1 h2=>by
  rw[h1]at h2;cases h2
  have:=hf kv (List.mem_of_getElem? h1)
  exact⟨.free this.1,.free this.2⟩⟩
theorem LeB.iter {cur:Option (V × V)} {rest rest':List (V × V)} (e:rest=rest') (hf:∀kv∈rest,Free kv.1∧Free kv.2):LeB h nx ρ nx' Z (.iter cur rest) (.iter none rest'):=by
 subst e
 exact⟨rfl,fun j kv kv' h1 h2=>by
  rw[h1]at h2;cases h2
  have:=hf kv (List.mem_of_getElem? h1)
  exact⟨.free this.1,.free this.2⟩,fun kv' h=>by cases h⟩
end
end
theorem roundV_eq {P:Program} {T:Tab} {N:Nat} (hT:TabOk P T) (hm:P.follows .mixedOrders=true) {b nx:Nat} {t:List (Nat × V)} {ps:List Nat} {asg body asg0 body0:Code} {args:List V} {h:Heap} {K:V→Heap→Nat→Prop} (ea:asg=asg0) (eb:body=body0)
  (h1:args.length=ps.length) (h2:∀p∈ps,p < N) (h3:b < nx)
  (hv:vcg P T N nx true asg0 ⟨zipPs ps args t,h,nx⟩ (fun e s1=>match e with
   | .normal=>hget s1.h b=some (.loop N t ps asg body .ready none)∧vcg P T N nx true body0 ⟨s1.t,(b,some (.loop N t ps asg body .busy none)) :: s1.h,s1.nx⟩ (fun e2 s2=>hget s2.h b=some (.loop N t ps asg body .busy none) ∧
     match e2 with
     | .normal=>K (.bool true) ((b,some (.loop N t ps asg body .ready none)) :: s2.h) s2.nx
     | e2=>K (.bool false) ((b,some (.loop N t ps asg body .done (some e2.code))) :: s2.h) s2.nx)
   | _=>False)):RoundV P N b t ps asg body args h nx K:=by
 subst ea eb
 exact roundV_of hT hm h1 h2 h3 hv
section
theorem VR.mono2 {ι csz csz':Nat→Option Nat} {imm imm':Bool→Addr→Value→Prop}
  (hz:∀b c m,ι b=some c→csz c=some m→csz' c=some m) (hi:∀fr a u,imm fr a u→imm' fr a u)
  {v:V} {u:Value} (h:VR ι csz imm v u):VR ι csz' imm' v u:=by
 induction h with
 | any u=>exact .any u
 | int k n=>exact .int k n
 | bool b=>exact .bool b
 | str s=>exact .str s
 | agg cs us hl _ ih=>exact .agg cs us hl ih
 | tup cs us hl _ ih=>exact .tup cs us hl ih
 | snil A=>exact .snil A
 | sl fr sz xs A cap us hcap hm hA hrow hc _ ih=>exact .sl fr sz xs A cap us hcap hm hA hrow (fun j v hj ad ha=>hi _ _ _ (hc j v hj ad ha)) ih
 | iptr fr cs ad us hs hc _ ih=>exact .iptr fr cs ad us hs (fun j v hj=>hi _ _ _ (hc j v hj)) ih
 | nilp=>exact .nilp
 | ptr b col c h=>exact .ptr b col c h
 | eptr b sz row col c h=>exact .eptr b sz row col c h
 | osl b sz row n c cap m h z he hn hm=>exact .osl b sz row n c cap m h (hz _ _ _ h z) he hn hm
 | oslz b sz row A=>exact .oslz b sz row A
 | nilf=>exact .nilf
 | fn f fs cs us ws hf hc _ _ ih1 ih2=>exact .fn f fs cs us ws hf hc ih1 ih2
 | nili=>exact .nili
 | ifc t v u _ ih=>exact .ifc t v u ih
 | opt c v u _ h0 ih=>exact .opt c v u ih h0
 | yld b c h=>exact .yld b c h
 | ubool b=>exact .ubool b
 | psl b sz row n c cap m h z he hn hm=>exact .psl b sz row n c cap m h (hz _ _ _ h z) he hn hm
 | pin u v _ ih=>exact .pin u v ih
 | mapp b c h=>exact .mapp b c h
 | nilm=>exact .nilm
 | imap fr es c arr clk hc hok hl _ _ ih1 ih2=>exact .imap fr es c arr clk (hi _ _ _ hc) hok hl ih1 ih2
structure Agr (G G':Gh) (h:Heap) (w w':World):Prop where
 size:w.heap.size≤w'.heap.size
 ι:G'.ι=G.ι
 B:G'.B=G.B
 sub:∀c,G.amb c→G'.amb c
 amb:∀c,G.amb c→w'.heap[c]? = w.heap[c]?
 own:∀b blk c,hget h b=some blk→G.ι b=some c→w'.heap[c]? = w.heap[c]?
 csz:∀b c m,G.ι b=some c→csz w c=some m→csz w' c=some m
theorem Agr.imm {G G':Gh} {h:Heap} {w w':World} (ha:Agr G G' h w w') {fr:Bool} {a:Addr} {u:Value} (hi:imm G w fr a u):imm G' w' fr a u:=
 ⟨(rd_of_block (ha.amb _ hi.2.1)).trans hi.1,ha.sub _ hi.2.1,fun hf=>by rw[frozen_of_block (ha.amb _ hi.2.1),ha.B];exact hi.2.2.1 hf,hi.2.2.2⟩
theorem Agr.vr {G G':Gh} {h:Heap} {w w':World} (ha:Agr G G' h w w') {v:V} {u:Value} (hv:vr G w v u):vr G' w' v u:=by
 show VR G'.ι _ _ v u
 rw[ha.ι]
 exact VR.mono2 ha.csz (fun _ _ _ hi=>ha.imm hi) hv
theorem Agr.blk {G G':Gh} {h:Heap} {w w':World} (ha:Agr G G' h w w') {b:Nat} {blk:Blk} (hb:hget h b=some blk) (this:BlkOk G w b blk):BlkOk G' w' b blk:=by
 have hc:∀c,G.ι b=some c→w'.heap[c]? = w.heap[c]?:=fun c=>ha.own b blk c hb
 have hι:∀c,G.ι b=some c→G'.ι b=some c:=fun c h=>by rw[ha.ι];exact h
 have hh:∀{fr ex ty vs},Holds G w b fr ex ty vs→Holds G' w' b fr ex ty vs:=by
  rintro fr ex ty vs ⟨c,cs,h1,h2,h3,h4,h5,h6,h7⟩
  exact⟨c,cs,hι c h1,(hc c h1).trans h2,h3,h4,fun hf=>by rw[ha.B];exact h5 hf,fun j v hj=>let ⟨u,hu,h1,hr⟩:=h6 j v hj;⟨u,hu,h1,ha.vr hr⟩,h7⟩
 cases blk with
 | var fr ty cells=>exact hh this
 | arr fr ex ty sz rows=>
  refine⟨this.1,?_⟩
  rcases this.2 with⟨h1,h2⟩|h1
  ·exact .inl ⟨by rw[ha.ι];exact h1,h2⟩
  ·exact .inr (hh h1)
 | loop N t ps asg body st pend=>
  obtain⟨c,r,h1,h2,h3,h4,h5,h6,h7,h8,h9⟩:=this
  exact⟨c,r,hι c h1,(hc c h1).trans h2,h3,h4,h5,h6,h7,h8,fun i=>ha.vr (h9 i)⟩
 | map es=>
  exact MapH.to this hι hc rfl fun j kv kv' h1 h2=>by
   obtain rfl:=same_of h1 h2
   exact⟨fun _=>ha.vr,fun _=>ha.vr⟩
 | iter cur rest=>
  exact IterH.to this hι hc (fun _ _ _ hi=>ha.imm hi) rfl (fun j kv kv' h1 h2=>by
   obtain rfl:=same_of h1 h2
   exact⟨fun _=>ha.vr,fun _=>ha.vr⟩) fun kv hkv=>⟨kv,hkv,fun _=>ha.vr,fun _=>ha.vr⟩
theorem Agr.hr {G:Gh} {h:Heap} {nx:Nat} {w w':World} (ha:Agr G G h w w') (hr:HR G h nx w):HR G h nx w':=
 ⟨fun c hc=>Nat.lt_of_lt_of_le (hr.amb_lt c hc) ha.size,Nat.le_trans hr.B_le ha.size,hr.dom,fun b blk hb=>ha.blk hb (hr.own b blk hb),hr.inj,hr.apart,fun b c hc=>Nat.lt_of_lt_of_le (hr.lt b c hc) ha.size,hr.hdom,hr.gl.to (fun _ h=>h) ha.amb⟩
def Gh.from (w:World) (B:Nat):Gh:=⟨fun _=>none,fun c=>B≤c∧c < w.heap.size,B⟩
def CallB (P:Program) (f:FuncId) (args:List V) (h:Heap) (nx:Nat) (R:V→Heap→Nat→Prop):Prop:=
 (∃fn,P.funcs[f]? = some fn) ∧
 ∀(G:Gh) (w:World) (us:List Value),HR G h nx w→vrs G w args us →
  Cal P f us.toArray w fun e w'=>∃u v h' nx' G' B',e=.returned u∧R v h' nx'∧HR G' h' nx' w'∧Evo nx G w G' w'∧nx≤nx' ∧
   (∀c,G'.amb c→c < B')∧(∀b c,G'.ι b=some c→c < B')∧w.heap.size≤B'∧B'≤w'.heap.size∧vr (Gh.from w' B') w' v u
theorem CallB.mono {P:Program} {f:FuncId} {args:List V} {h:Heap} {nx:Nat} {R R':V→Heap→Nat→Prop} (hc:CallB P f args h nx R) (hr:∀v h' nx',R v h' nx'→R' v h' nx'):CallB P f args h nx R':=
 ⟨hc.1,fun G w us hh hv=>(hc.2 G w us hh hv).mono fun e w' ⟨u,v,h',nx',G',B',h1,h2,h3⟩=>⟨u,v,h',nx',G',B',h1,hr _ _ _ h2,h3⟩⟩
theorem CallB.callV {P:Program} {f:FuncId} {args:List V} {h:Heap} {nx:Nat} {R:V→Heap→Nat→Prop} (hc:CallB P f args h nx R):CallV P f args h nx R:=by
 refine⟨hc.1,fun G w us hr hv=>(hc.2 G w us hr hv).mono ?_⟩
 rintro e w' ⟨u,v,h',nx',G',B',rfl,hR,hr',he,hn,ha,hi,hB,hBs,hvr⟩
 have hle:G.B≤B':=Nat.le_trans hr.B_le hB
 have hGB:G'.B=G.B:=he.B
 have ag:Agr G' ⟨G'.ι,fun c=>G'.amb c∨(B'≤c∧c < w'.heap.size),G'.B⟩ h' w' w':=⟨Nat.le_refl _,rfl,rfl,fun c hc=>.inl hc,fun _ _=>rfl,fun _ _ _ _ _=>rfl,fun _ _ _ _ h=>h⟩
 refine⟨u,v,h',nx',⟨G'.ι,fun c=>G'.amb c∨(B'≤c∧c < w'.heap.size),G'.B⟩,rfl,hR,?_,⟨fun c hc=>?_,hr'.B_le,hr'.dom,fun b blk hb=>ag.blk hb (hr'.own b blk hb),hr'.inj,fun b blk c hb hc hacc=>?_,hr'.lt,hr'.hdom,hr'.gl.to (fun _ h=>.inl h) (fun _ _=>rfl)⟩,
  ⟨he.os,he.tape,he.output,he.size,he.B,fun c hc=>.inl (he.amb c hc),he.keep,he.csz,he.ids,he.keepu,fun c hc hlt=>?_,he.idn⟩,hn⟩
 ·refine VR.mono (fun b c h=>by cases h) (fun _ _ h=>h) (fun fr a u hi=>⟨hi.1,.inr hi.2.1,fun hf=>⟨?_,(hi.2.2.1 hf).2⟩,hi.2.2.2⟩) hvr
  have:=(hi.2.2.1 hf).1
  show G'.B≤_
  rw[hGB];exact Nat.le_trans hle this
 ·rcases hc with hc|hc
  ·exact hr'.amb_lt c hc
  ·exact hc.2
 ·rcases hacc with h|h
  ·exact hr'.apart b blk c hb hc h
  ·have:=hi b c hc;omega
 ·rcases hc with hc|hc
  ·exact he.ambn c hc hlt
  ·omega
theorem callB_frame {P:Program} {f:FuncId} {args args0:List V} {h h0:Heap} {nx n0:Nat} {R K:V→Heap→Nat→Prop} (ρ:Nat→Nat) (hc:CallB P f args0 h0 n0 R)
  (ha:LeL h nx ρ n0 [] args args0) (hh:LeH 0 h nx ρ n0 [] h0) (hlive:∀b,b < n0→hget h (ρ b) ≠ none) (hinj:∀b,b < n0→∀b',b' < n0→ρ b=ρ b'→b=b')
  (hK:∀v h' nx',R v h' nx'→n0≤nx'→∃h2,frH ρ n0 nx nx' h h' h2∧K v h2 (nx + (nx' - n0))):CallB P f args h nx K:=by
 refine⟨hc.1,fun G w us hr hv=>?_⟩
 obtain⟨hr0,_⟩:=hh.ok hr
 refine(hc.2 _ w us hr0 (ha.vrs hr hv)).mono ?_
 rintro e w' ⟨u,v,h',nx',G1,B1,rfl,hR,hr1,E,hle,hamB,hιB,hBw,hBs,hv1⟩
 obtain⟨h2,hfr,hK⟩:=hK v h' nx' hR hle
 classical
 have hto:∀b c,(G.to ρ n0 []).ι b=some c→b < n0∧G.ι (ρ b)=some c:=by
  intro b c hb
  simp only[Gh.to]at hb
  split at hb
  ·rename_i hlt;exact⟨hlt,hb⟩
  ·cases hb
 have hlt0:∀b,b < n0→ρ b < nx:=fun b hb=>by
  cases hg:hget h (ρ b)with
  | none=>exact absurd hg (hlive b hb)
  | some k=>exact hr.hdom _ k hg
 -- the ids of the caller
 let pre:Nat→Option Nat:=fun b=>(List.range n0).find? (fun b1=>ρ b1 == b)
 have hpre:∀b b1,pre b=some b1→b1 < n0∧ρ b1=b:=by
  intro b b1 hp
  have h1:=List.mem_of_find?_eq_some hp
  have h3:=List.find?_some hp
  exact⟨by simpa using h1,by simpa using h3⟩
 have hpre0:∀b,pre b=none→∀b1,b1 < n0→ρ b1 ≠ b:=by
  intro b hp b1 hb1 e
  have:=List.find?_eq_none.1 hp b1 (by simpa using hb1)
  simp[e]at this
 have hpre1:∀b1,b1 < n0→pre (ρ b1)=some b1:=by
  intro b1 hb1
  cases hp:pre (ρ b1)with
  | none=>exact absurd rfl (hpre0 _ hp b1 hb1)
  | some b2=>rw[hinj b2 (hpre _ _ hp).1 b1 hb1 (hpre _ _ hp).2]
 have hpren:∀b,nx≤b→pre b=none:=by
  intro b hb
  cases hp:pre b with
  | none=>rfl
  | some b2=>have:=hpre _ _ hp;have:=hlt0 b2 this.1;omega
 let ι':Nat→Option Nat:=fun b=>match pre b with
  | some b1=>G1.ι b1
  | none=>if b < nx then G.ι b else if b - nx + n0 < nx' then G1.ι (b - nx + n0)else none
 let G':Gh:=⟨ι',G1.amb,G.B⟩
 have hB:G1.B=G.B:=E.B
 have hι:∀b,G'.ι (sig ρ n0 nx b)=G1.ι b:=by
  intro b
  show(match pre (sig ρ n0 nx b)with|some b1=>G1.ι b1|none=>if sig ρ n0 nx b < nx then G.ι (sig ρ n0 nx b)else if sig ρ n0 nx b - nx + n0 < nx' then G1.ι (sig ρ n0 nx b - nx + n0)else none)=_
  rcases Nat.lt_or_ge b n0 with hlt|hge
  ·have e:sig ρ n0 nx b=ρ b:=by simp[sig,hlt]
   rw[e,hpre1 b hlt]
  ·have e:sig ρ n0 nx b=nx + (b - n0):=by simp[sig,Nat.not_lt.2 hge]
   rw[e,hpren _ (by omega)]
   simp only
   rw[if_neg (by omega),show nx + (b - n0) - nx + n0=b by omega]
   split
   ·rfl
   ·rename_i hge;exact(hr1.dom b (by omega)).symm
 have hιk:∀b,pre b=none→b < nx→G'.ι b=G.ι b:=by
  intro b hp hb
  show(match pre b with|some b1=>G1.ι b1|none=>if b < nx then G.ι b else if b - nx + n0 < nx' then G1.ι (b - nx + n0)else none)=_
  rw[hp]
  simp[hb]
 have hιold:∀b c,G.ι b=some c→G'.ι b=some c:=by
  intro b c hc
  have hb:b < nx:=by
   rcases Nat.lt_or_ge b nx with h1|h1
   ·exact h1
   ·rw[hr.dom b h1]at hc;cases hc
  cases hp:pre b with
  | none=>rw[hιk b hp hb];exact hc
  | some b1=>
   obtain⟨h1,h3⟩:=hpre b b1 hp
   show(match pre b with|some b1=>G1.ι b1|none=>if b < nx then G.ι b else if b - nx + n0 < nx' then G1.ι (b - nx + n0)else none)=_
   rw[hp]
   refine E.ids b1 c h1 ?_
   simp only[Gh.to,h1,if_true,h3]
   exact hc
 -- where an id of the caller's comes from
 have hfrom:∀b c,G'.ι b=some c→(∃b1,sig ρ n0 nx b1=b∧G1.ι b1=some c)∨(pre b=none∧b < nx∧G.ι b=some c):=by
  intro b c hc
  cases hp:pre b with
  | some b1=>
   obtain⟨h1,h3⟩:=hpre b b1 hp
   refine .inl ⟨b1,by simp[sig,h1,h3],?_⟩
   rw[← hι b1,show sig ρ n0 nx b1=b by simp[sig,h1,h3]]
   exact hc
  | none=>
   rcases Nat.lt_or_ge b nx with hb|hb
   ·exact .inr ⟨rfl,hb,by rw[← hιk b hp hb];exact hc⟩
   ·have e:sig ρ n0 nx (b - nx + n0)=b:=by
     unfold sig
     rw[if_neg (by omega)]
     omega
    refine .inl ⟨b - nx + n0,e,?_⟩
    rw[← hι,e]
    exact hc
 have hidn1:∀b1 c,G1.ι b1=some c→c < w.heap.size→∃b0,b0 < n0∧G.ι (ρ b0)=some c:=by
  intro b1 c hc hlt
  obtain⟨b0,hb0⟩:=E.idn b1 c hc hlt
  exact⟨b0,hto b0 c hb0⟩
 have ham:∀c,G1.amb c→c < w.heap.size→G.amb c∨∃b0,b0 < n0∧G.ι (ρ b0)=some c:=by
  intro c hc hlt
  rcases E.ambn c hc hlt with(h1|⟨_,h1,_⟩)|⟨b,h1⟩
  ·exact .inl h1
  ·simp at h1
  ·exact .inr ⟨b,hto b c h1⟩
 have he:EvoA G w G' w':=fun base=>⟨E.os,E.tape,E.output,E.size,rfl,fun c hc=>E.amb c (.inl hc),fun c hc=>E.keep c (.inl hc),E.csz,fun b c _ hc=>hιold b c hc,
  fun c hc hn=>E.keepu c hc (fun b hb=>hn _ (hto b c hb).2),
  fun c hc hlt=>(ham c hc hlt).imp_right (fun⟨b0,_,h1⟩=>⟨_,h1⟩),fun b c hc hlt=>by
   rcases hfrom b c hc with⟨b1,_,h3⟩|⟨_,_,h3⟩
   ·obtain⟨b0,_,h4⟩:=hidn1 b1 c h3 hlt;exact⟨_,h4⟩
   ·exact⟨b,h3⟩⟩
 have him:∀fr a u,imm G1 w' fr a u→imm G' w' fr a u:=fun fr a u hi=>⟨hi.1,hi.2.1,fun hf=>by have:=hi.2.2.1 hf;rw[hB]at this;exact this,hi.2.2.2⟩
 have hrest:∀b c,(∀b1,b1 < n0→ρ b1 ≠ b)→∀k,hget h b=some k→G.ι b=some c→∀b0,b0 < n0→G.ι (ρ b0) ≠ some c:=by
  intro b c hne k hk hc b0 hb0 h0
  cases hg:hget h (ρ b0)with
  | none=>exact hlive b0 hb0 hg
  | some k'=>exact hne b0 hb0 (hr.inj _ _ k' k c hg hk h0 hc)
 refine⟨u,v,h2,nx + (nx' - n0),G',B1,rfl,hK,⟨hr1.amb_lt,Nat.le_trans hr.B_le E.size,fun b hb=>?_,fun b blk hb=>?_,fun b1 b2 k1 k2 c h1 h3 h4 h5=>?_,fun b blk c hb hc hacc=>?_,fun b c hc=>?_,fun b blk hb=>?_,hr.gl.evo (he 0)⟩,he nx,by omega,hamB,fun b c hc=>?_,hBw,hBs,hv1⟩
 ·show(match pre b with|some b1=>G1.ι b1|none=>if b < nx then G.ι b else if b - nx + n0 < nx' then G1.ι (b - nx + n0)else none)=_
  rw[hpren b (by omega)]
  simp only
  rw[if_neg (by omega),if_neg (by omega)]
 ·rcases hfr.out b blk hb with⟨b1,rfl,_,k,hk,hrb⟩|⟨hne,hk⟩
  ·exact hrb.ok hι him hB.symm (hr1.own b1 k hk)
  ·refine(hr.own b blk hk).keep he (fun c hc=>E.keepu c (hr.lt b c hc) (fun b1 hb1=>?_)) (fun hn=>?_)
   ·obtain⟨q1,q2⟩:=hto b1 c hb1
    exact hrest b c hne blk hk hc b1 q1 q2
   ·have hb':=hr.hdom b blk hk
    have hp:pre b=none:=by
     cases hp:pre b with
     | none=>rfl
     | some b1=>exact absurd (hpre b b1 hp).2 (hne b1 (hpre b b1 hp).1)
    rw[hιk b hp hb'];exact hn
 ·rcases hfr.out b1 k1 h1 with⟨a1,rfl,_,q1,hq1,_⟩|⟨hne1,hk1⟩<;>rcases hfr.out b2 k2 h3 with⟨a2,rfl,_,q2,hq2,_⟩|⟨hne2,hk2⟩
  ·rw[hι]at h4 h5
   rw[hr1.inj a1 a2 q1 q2 c hq1 hq2 h4 h5]
  ·rw[hι]at h4
   have hg:=hfrom b2 c h5
   have hb2:=hr.hdom b2 k2 hk2
   rcases hg with⟨a2,rfl,h6⟩|⟨_,_,h6⟩
   ·exact congrArg _ (by
     have:a2 < n0∨n0≤a2:=Nat.lt_or_ge a2 n0
     rcases this with h7|h7
     ·exact absurd (by simp[sig,h7]) (hne2 a2 h7)
     ·simp[sig,Nat.not_lt.2 h7]at hb2;omega)
   ·obtain⟨b0,hb0,h7⟩:=hidn1 a1 c h4 (hr.lt b2 c h6)
    exact absurd h7 (hrest b2 c hne2 k2 hk2 h6 b0 hb0)
  ·rw[hι]at h5
   have hg:=hfrom b1 c h4
   have hb2:=hr.hdom b1 k1 hk1
   rcases hg with⟨a2',rfl,h6⟩|⟨_,_,h6⟩
   ·exact congrArg _ (by
     have:a2' < n0∨n0≤a2':=Nat.lt_or_ge a2' n0
     rcases this with h7|h7
     ·exact absurd (by simp[sig,h7]) (hne1 a2' h7)
     ·simp[sig,Nat.not_lt.2 h7]at hb2;omega)
   ·obtain⟨b0,hb0,h7⟩:=hidn1 a2 c h5 (hr.lt b1 c h6)
    exact absurd h7 (hrest b1 c hne1 k1 hk1 h6 b0 hb0)
  ·have e1:G.ι b1=some c:=by
    rcases hfrom b1 c h4 with⟨a2,rfl,h6⟩|⟨_,_,h6⟩
    ·have hb2:=hr.hdom _ k1 hk1
     rcases Nat.lt_or_ge a2 n0 with h7|h7
     ·exact absurd (by simp[sig,h7]) (hne1 a2 h7)
     ·simp[sig,Nat.not_lt.2 h7]at hb2;omega
    ·exact h6
   have e2:G.ι b2=some c:=by
    rcases hfrom b2 c h5 with⟨a2,rfl,h6⟩|⟨_,_,h6⟩
    ·have hb2:=hr.hdom _ k2 hk2
     rcases Nat.lt_or_ge a2 n0 with h7|h7
     ·exact absurd (by simp[sig,h7]) (hne2 a2 h7)
     ·simp[sig,Nat.not_lt.2 h7]at hb2;omega
    ·exact h6
   exact hr.inj b1 b2 k1 k2 c hk1 hk2 e1 e2
 ·rcases hfr.out b blk hb with⟨b1,rfl,_,k,hk,_⟩|⟨hne,hk⟩
  ·rw[hι]at hc
   exact hr1.apart b1 k c hk hc hacc
  ·have e1:G.ι b=some c:=by
    rcases hfrom b c hc with⟨a2,rfl,h6⟩|⟨_,_,h6⟩
    ·have hb2:=hr.hdom _ blk hk
     rcases Nat.lt_or_ge a2 n0 with h7|h7
     ·exact absurd (by simp[sig,h7]) (hne a2 h7)
     ·simp[sig,Nat.not_lt.2 h7]at hb2;omega
    ·exact h6
   rcases ham c hacc (hr.lt b c e1)with h6|⟨b0,hb0,h6⟩
   ·exact hr.apart b blk c hk e1 h6
   ·exact hrest b c hne blk hk e1 b0 hb0 h6
 ·rcases hfrom b c hc with⟨b1,_,h6⟩|⟨_,_,h6⟩
  ·exact hr1.lt b1 c h6
  ·exact Nat.lt_of_lt_of_le (hr.lt b c h6) E.size
 ·rcases hfr.out b blk hb with⟨b1,rfl,hlt,k,hk,_⟩|⟨hne,hk⟩
  ·unfold sig
   split
   ·rename_i h7;have:=hlt0 b1 h7;omega
   ·omega
  ·have:=hr.hdom b blk hk;omega
 ·rcases hfrom b c hc with⟨b1,_,h6⟩|⟨_,_,h6⟩
  ·exact hιB b1 c h6
  ·exact Nat.lt_of_lt_of_le (hr.lt b c h6) hBw
structure Two (base:Nat) (G:Gh) (w:World) (G1:Gh) (h1:Heap) (nx1:Nat) (G2:Gh) (w':World):Prop where
 hr:HR G1 h1 nx1 w'
 evo:Evo base G w G1 w'
 nx:base≤nx1
 amb:∀c,G1.amb c→c < G2.B∧G2.amb c
 lt:∀b c,G1.ι b=some c→c < G2.B
 own:∀b blk c,hget h1 b=some blk→G1.ι b=some c→G2.amb c
 B:w.heap.size≤G2.B
 idn:∀b c,G2.ι b=some c→c < w.heap.size→∃b',G.ι b'=some c
 ambn:∀c,G2.amb c→c < w.heap.size→G.amb c∨∃b,G.ι b=some c
theorem Two.step {base base2:Nat} {G G1 G2 G2':Gh} {w w1 w':World} {h1:Heap} {nx1:Nat} (t:Two base G w G1 h1 nx1 G2 w1) (e:Evo base2 G2 w1 G2' w'):Two base G w G1 h1 nx1 G2' w':=by
 have ag:Agr G1 G1 h1 w1 w':=⟨e.size,rfl,rfl,fun _ h=>h,fun c hc=>e.keep c (t.amb c hc).2,fun b blk c hb hc=>e.keep c (t.own b blk c hb hc),fun b c m _ hm=>e.csz c m hm⟩
 refine⟨ag.hr t.hr,⟨e.os.trans t.evo.os,e.tape.trans t.evo.tape,e.output.trans t.evo.output,Nat.le_trans t.evo.size e.size,t.evo.B,t.evo.amb,fun c hc=>(e.keep c (t.amb c (t.evo.amb c hc)).2).trans (t.evo.keep c hc),fun c m hm=>e.csz c m (t.evo.csz c m hm),t.evo.ids,fun c hc hn=>?_,t.evo.ambn,t.evo.idn⟩,t.nx,fun c hc=>⟨by rw[e.B];exact(t.amb c hc).1,e.amb c (t.amb c hc).2⟩,fun b c hc=>by rw[e.B];exact t.lt b c hc,fun b blk c hb hc=>e.amb c (t.own b blk c hb hc),by rw[e.B];exact t.B,fun b c hc hlt=>?_,fun c hc hlt=>?_⟩
 ·refine(e.keepu c (Nat.lt_of_lt_of_le hc t.evo.size) (fun b hb=>?_)).trans (t.evo.keepu c hc hn)
  obtain⟨b',hb'⟩:=t.idn b c hb hc
  exact hn b' hb'
 ·obtain⟨b',hb'⟩:=e.idn b c hc (Nat.lt_of_lt_of_le hlt t.evo.size)
  exact t.idn b' c hb' hlt
 ·rcases e.ambn c hc (Nat.lt_of_lt_of_le hlt t.evo.size)with h|⟨b,h⟩
  ·exact t.ambn c h hlt
  ·exact .inr (t.idn b c h hlt)
theorem Two.behind {base:Nat} {G Ga G1 G2:Gh} {w wa w':World} {h1:Heap} {nx1:Nat} (e:Evo base G w Ga wa) (t:Two base Ga wa G1 h1 nx1 G2 w'):Two base G w G1 h1 nx1 G2 w':=
 ⟨t.hr,e.trans t.evo,t.nx,t.amb,t.lt,t.own,Nat.le_trans e.size t.B,fun b c hc hlt=>by
  obtain⟨b',hb'⟩:=t.idn b c hc (Nat.lt_of_lt_of_le hlt e.size)
  exact e.idn b' c hb' hlt,fun c hc hlt=>by
  rcases t.ambn c hc (Nat.lt_of_lt_of_le hlt e.size)with h|⟨b,h⟩
  ·exact e.ambn c h hlt
  ·exact .inr (e.idn b c h hlt)⟩
theorem Dfr.two {base:Nat} {w0:World} {Ga G1 G2:Gh} {wa w':World} {h1:Heap} {nx1:Nat} {D D':List Deferred} (h:Dfr w0 Ga wa D D') (t:Two base Ga wa G1 h1 nx1 G2 w'):Dfr w0 G2 w' D D':=by
 obtain⟨ms,h1,h2,h3⟩:=h
 refine⟨ms,h1,fun r hr=>?_,h3⟩
 obtain⟨q1,q2,q3,q4⟩:=h2 r hr
 have hlt:=lt_of_heap q2
 refine⟨q1,(t.evo.keepu r hlt q3).trans q2,fun b hb=>?_,fun ha=>?_⟩
 ·obtain⟨b',hb'⟩:=t.idn b r hb hlt
  exact q3 b' hb'
 ·rcases t.ambn r ha hlt with h|⟨b,h⟩
  ·exact q4 h
  ·exact q3 b h
theorem Dfr.append {w0 w1:World} {G2:Gh} {w2:World} {D D1 D2:List Deferred} (h:Dfr w0 G2 w2 D D1) (h0:∀ms:List Nat,D1=(ms.map fun r=>{ target:=.collected r,args:=#[] })++ D→∀r∈ms,r < w1.heap.size) (hw:w0.heap.size≤w1.heap.size) (k:Dfr w1 G2 w2 D1 D2):Dfr w0 G2 w2 D D2:=by
 obtain⟨ms,h1,h2,h3⟩:=h
 obtain⟨ms2,k1,k2,k3⟩:=k
 refine⟨ms2 ++ ms,by rw[k1,h1];simp,fun r hr=>?_,List.pairwise_append.2 ⟨k3,h3,fun a ha b hb e=>?_⟩⟩
 ·rcases List.mem_append.1 hr with hr|hr
  ·have:=k2 r hr
   exact⟨by omega,this.2⟩
  ·exact h2 r hr
 ·have:=(k2 a ha).1
  have:=h0 ms h1 b hb
  omega
theorem Dfr.old {w0 w1:World} {G:Gh} {D D1:List Deferred} (h:Dfr w0 G w1 D D1):∀ms:List Nat,D1=(ms.map fun r=>{ target:=.collected r,args:=#[] })++ D→∀r∈ms,r < w1.heap.size:=by
 intro ms hms r hr
 obtain⟨ms0,h10,h20,_⟩:=h
 have:ms0=ms:=by
  have e:=h10.symm.trans hms
  have e2:=List.append_cancel_right e
  exact(List.map_inj_right (fun a b hab=>by simpa using hab)).1 e2
 subst this
 exact lt_of_heap (h20 r hr).2.1
section
variable {P : Program} {T : Tab} {F : Fence} {N : Nat}
def PostM (N base:Nat) (G:Gh) (w:World) (D:List Deferred) (K:Ex→Heap→Nat→St→Prop) (e:Exit) (a':Act) (w':World):Prop:=
 ∃e' h1 nx1 G1 s2 G2,e=Ex.to e'∧K e' h1 nx1 s2∧Two base G w G1 h1 nx1 G2 w'∧Sim G2 N s2 a' w'∧Dfr w G2 w' D a'.defers
def VM (P:Program) (F:Fence) (N base:Nat) (c:Code) (s:St) (K:Ex→Heap→Nat→St→Prop):Prop:=
 ∀(n:Nat) (G:Gh) (a:Act) (w:World),Sim G N s a w→base≤s.nx→c.wpIn F n P (PostM N base G w a.defers K) a w
theorem VM.mono {base:Nat} {c:Code} {s:St} {K K':Ex→Heap→Nat→St→Prop} (h:VM P F N base c s K) (hk:∀e h1 nx1 s2,K e h1 nx1 s2→K' e h1 nx1 s2):VM P F N base c s K':=
 fun n G a w hs hb=>wpIn_mono (h n G a w hs hb) fun e a' w' ⟨e',h1,nx1,G1,s2,G2,q1,q2,q3⟩=>⟨e',h1,nx1,G1,s2,G2,q1,hk _ _ _ _ q2,q3⟩
theorem PostM.evo {base:Nat} {G Ga:Gh} {w wa:World} {D D1:List Deferred} {K:Ex→Heap→Nat→St→Prop} {e:Exit} {a':Act} {w':World} (h:PostM N base Ga wa D1 K e a' w') (he:Evo base G w Ga wa) (hd:Dfr w Ga wa D D1):PostM N base G w D K e a' w':=by
 obtain⟨e',h1,nx1,G1,s2,G2,q1,q2,q3,q4,q5⟩:=h
 exact⟨e',h1,nx1,G1,s2,G2,q1,q2,q3.behind he,q4,(hd.two q3).append hd.old he.size q5⟩
theorem PostM.vc {base base2:Nat} {G G1 G2:Gh} {w w1:World} {D D1:List Deferred} {h1:Heap} {nx1:Nat} {Q:Ex→St→Prop} {e:Exit} {a':Act} {w':World} (t:Two base G w G1 h1 nx1 G2 w1) (hd:Dfr w G2 w1 D D1) (h:Post N base2 G2 w1 D1 Q e a' w'):PostM N base G w D (fun e h' nx' s=>h'=h1∧nx'=nx1∧Q e s) e a' w':=by
 obtain⟨e',s',G2',q1,q2,q3,q4,q5,q6⟩:=h
 exact⟨e',h1,nx1,G1,s',G2',q1,⟨rfl,rfl,q2⟩,t.step q4,q3,hd.trans q4 t.evo.size q6⟩
theorem vm_seq {base:Nat} {x y:Code} {s:St} {K:Ex→Heap→Nat→St→Prop} (h:VC P F N base x s (thenK (fun s'=>VM P F N base y s' K) (fun _ _=>False))):VM P F N base (.seq x y) s K:=by
 intro n G a w hs hb
 refine wpIn_seq (wpIn_mono (h n G a w hs hb) ?_)
 rintro e a' w' ⟨e',s',G',rfl,hq,hs',he,hb',hd⟩
 cases e' with
 | normal=>exact wpIn_mono (hq n G' a' w' hs' hb') fun e a2 w2 hp=>hp.evo he hd
 | exit id=>exact hq.elim
 | goto l=>exact hq.elim
 | ret=>exact hq.elim
theorem vm_then {base:Nat} {x y:Code} {s:St} {K:Ex→Heap→Nat→St→Prop} (h:VM P F N base x s (fun e h1 nx1 s2=>e=.normal∧VC P F N 0 y s2 (fun e s'=>K e h1 nx1 s'))):VM P F N base (.seq x y) s K:=by
 intro n G a w hs hb
 refine wpIn_seq (wpIn_mono (h n G a w hs hb) ?_)
 rintro e a' w' ⟨e',h1,nx1,G1,s2,G2,rfl,⟨rfl,hq⟩,ht,hs',hd⟩
 refine wpIn_mono (hq n G2 a' w' hs' (Nat.zero_le _)) fun e a2 w2 hp=>?_
 obtain⟨e',h2,nx2,G3,s3,G4,q1,⟨rfl,rfl,q2⟩,q3,q4,q5⟩:=PostM.vc ht hd hp
 exact⟨e',_,_,G3,s3,G4,q1,q2,q3,q4,q5⟩
theorem vm_mark {base:Nat} {c:Code} {s:St} {Q:Ex→St→Prop} (M:Nat→Bool) (t2:List (Nat × V)) (h2 h1:Heap)
  (hT:∀i,look t2 i=.any∨(look t2 i=s.get i∧((Free (look t2 i)∧Cold (look t2 i))∨∃b col,look t2 i=.ptr b col∧M b=true)))
  (hH:∀b blk,hget h2 b=some blk→M b=true∧∃fr ty cells,hget s.h b=some (.var fr ty cells)∧blk=.var false ty cells∧∀v∈cells,Free v∧Cold v)
  (hh1:∀b blk,hget h1 b=some blk→hget s.h b=some blk∧M b=false)
  (h:VC P F N 0 c ⟨t2,h2,s.nx⟩ Q):VM P F N base c s (fun e h' nx' s2=>h'=h1∧nx'=s.nx∧Q e s2):=by
 intro n G a w hs hb
 let G2:Gh:=⟨fun b=>if M b then G.ι b else none,fun c=>G.amb c∨∃b blk,M b=false∧hget s.h b=some blk∧G.ι b=some c,w.heap.size⟩
 have hι:∀b c,G2.ι b=some c→M b=true∧G.ι b=some c:=by
  intro b c hb
  simp only[G2]at hb
  split at hb
  ·rename_i h;exact⟨h,hb⟩
  ·cases hb
 have hfc:∀{v:V} {u:Value},Free v→Cold v→vr G w v u→vr G2 w v u:=fun hf hc hv=>
  hf _ _ _ _ _ (hc _ _ _ (imm G2 w) _ (fun a u hi=>⟨hi.1,.inl hi.2.1,(fun h=>by cases h),hi.2.2.2⟩) hv)
 have hr1:HR G h1 s.nx w:=⟨hs.hr.amb_lt,hs.hr.B_le,hs.hr.dom,fun b blk hb=>hs.hr.own b blk (hh1 b blk hb).1,fun b b' k k' c q1 q2=>hs.hr.inj b b' k k' c (hh1 b k q1).1 (hh1 b' k' q2).1,fun b k c q1=>hs.hr.apart b k c (hh1 b k q1).1,hs.hr.lt,fun b k q=>hs.hr.hdom b k (hh1 b k q).1,hs.hr.gl⟩
 have ht:Two base G w G h1 s.nx G2 w:=⟨hr1,Evo.refl _ _ _,hb,fun c hc=>⟨hs.hr.amb_lt c hc,.inl hc⟩,hs.hr.lt,fun b blk c q1 q2=>.inr ⟨b,blk,(hh1 b blk q1).2,(hh1 b blk q1).1,q2⟩,Nat.le_refl _,fun b c hc _=>⟨b,(hι b c hc).2⟩,fun c hc _=>by
  rcases hc with hc|⟨b,_,_,_,hc⟩
  ·exact .inl hc
  ·exact .inr ⟨b,hc⟩⟩
 have hs2:Sim G2 N ⟨t2,h2,s.nx⟩ a w:=by
  refine⟨hs.size,fun i=>?_,⟨fun c hc=>?_,Nat.le_refl _,fun b hb=>?_,fun b blk hb=>?_,fun b b' k k' c q1 q2 q3 q4=>?_,fun b k c q1 q2 q3=>?_,fun b c hc=>hs.hr.lt b c (hι b c hc).2,fun b k q=>?_,hs.hr.gl.to (fun _ h=>.inl h) (fun _ _=>rfl)⟩⟩
  ·show vr G2 w (look t2 i) _
   rcases hT i with h1|⟨h1,h3⟩
   ·rw[h1];exact .any _
   ·have hi:=hs.tmp i
    rw[← h1]at hi
    rcases h3 with⟨hf,hc⟩|⟨b,col,h3,hm⟩
    ·exact hfc hf hc hi
    ·rw[h3]at hi ⊢
     generalize a.tmps.getD i undef=x at hi
     cases hi with
     | ptr _ _ c hc=>exact .ptr b col c (by simp[G2,hm,hc])
  ·rcases hc with hc|⟨b,_,_,_,hc⟩
   ·exact hs.hr.amb_lt c hc
   ·exact hs.hr.lt b c hc
  ·simp[G2,hs.hr.dom b hb]
  ·obtain⟨hm,fr,ty,cells,hg,rfl,hcl⟩:=hH b blk hb
   obtain⟨c,cs,q1,q2,q3,q4,q5,q6,q7⟩:Holds G w b fr true ty cells:=hs.hr.own b _ hg
   refine⟨c,cs,by simp[G2,hm,q1],q2,q3,q4,(fun h=>by cases h),fun j v hj=>?_,q7⟩
   obtain⟨u,hu,h1,hvr⟩:=q6 j v hj
   obtain⟨z1,z2⟩:=hcl v (List.mem_of_getElem? hj)
   exact⟨u,hu,h1,hfc z1 z2 hvr⟩
  ·obtain⟨_,_,_,_,g1,_⟩:=hH b k q1
   obtain⟨_,_,_,_,g2,_⟩:=hH b' k' q2
   exact hs.hr.inj b b' _ _ c g1 g2 (hι b c q3).2 (hι b' c q4).2
  ·obtain⟨hm,_,_,_,g1,_⟩:=hH b k q1
   rcases q3 with q3|⟨b',blk',hm',g2,q3⟩
   ·exact hs.hr.apart b _ c g1 (hι b c q2).2 q3
   ·have:=hs.hr.inj b b' _ _ c g1 g2 (hι b c q2).2 q3
    subst this
    rw[hm]at hm';cases hm'
  ·obtain⟨_,_,_,_,g1,_⟩:=hH b k q
   exact hs.hr.hdom b _ g1
 exact wpIn_mono (h n G2 a w hs2 (Nat.zero_le _)) fun e a' w' hp=>PostM.vc ht (Dfr.of_eq rfl) hp
end
end
section
section
variable {P : Program} {T : Tab} {F : Fence} {N : Nat}
theorem callB_of_vm (hT:TabOk P T) {f:FuncId} {fn:Func} {body:Code} (hf:P.funcs[f]? = some fn) (hb:fn.body=some body) (hn:fn.name ≠ "runtime.NumGoroutine") {args:List V} {h:Heap} {nx:Nat} {R:V→Heap→Nat→Prop}
  (hl:args.length≤fn.ntmps)
  (hv:VM P Fence.wide fn.ntmps nx body ⟨zipT args 0,h,nx⟩ (fun e h1 nx1 s2=>match e with
   | .normal|.ret=>resK T s2 fn.results.toList fun v=>∃v' h' nx',Ends 0 s2 v v' h' nx'∧Free v'∧Fresh v'∧R v' h1 nx1
   | _=>False)):CallB P f args h nx R:=by
 refine⟨⟨fn,hf⟩,fun G w us hr hargs=>.inl ⟨⟨fn,hf,by simp[hb],hn⟩,(callsIn_wide (n:=0)).1 (callsIn_of_wp_marks hf hb trivial ?_)⟩⟩
 have hsim:Sim G fn.ntmps ⟨zipT args 0,h,nx⟩ { tmps:=us.toArray ++ Array.replicate (fn.ntmps - us.toArray.size) undef,defers:=[] } w:=by
  have hul:us.length=args.length:=hargs.1.symm
  refine⟨by simp;omega,fun i=>?_,hr⟩
  simp only[St.get]
  rw[zipT_get]
  split
  ·rename_i hi
   have hi1:i < args.length:=by omega
   have hi2:i < us.length:=by omega
   have e1:args.getD (i - 0) .any=args[i]:=by simp[hi1]
   rw[e1]
   have e2:(us.toArray ++ Array.replicate (fn.ntmps - us.toArray.size) undef).getD i undef=us[i]:=by
    rw[Array.getD_eq_getD_getElem?,Array.getElem?_append_left (by simpa using hi2)]
    simp[hi2]
   rw[e2]
   exact hargs.2 i _ _ (List.getElem?_eq_getElem hi1) (List.getElem?_eq_getElem hi2)
  ·exact .any _
 refine wpIn_mono (hv 0 G _ w hsim (Nat.le_refl _)) ?_
 rintro e a' w' ⟨e',h1,nx1,G1,s',G',rfl,hq,ht,hs',hd⟩
 obtain⟨ms,hms,hmk,hpw⟩:=hd
 rw[List.append_nil]at hms
 have fin:resK T s' fn.results.toList (fun v=>∃v' h' nx',Ends 0 s' v v' h' nx'∧Free v'∧Fresh v'∧R v' h1 nx1)→∀w'',Shut ms w' w''→∃v,(results fn a'.tmps).run P w''=.ok v w'' ∧
   ∃u v1 h' nx' G' B',Ending.returned v=.returned u∧R v1 h' nx'∧HR G' h' nx' w''∧Evo nx G w G' w''∧nx≤nx'∧(∀c,G'.amb c→c < B')∧(∀b c,G'.ι b=some c→c < B')∧w.heap.size≤B'∧B'≤w''.heap.size∧vr (Gh.from w'' B') w'' v1 u:=by
  intro hq w'' hsh
  have hs':=hs'.shut hsh (fun r hr=>(hmk r hr).2.2)
  have hmw:∀c,c < w.heap.size→c ∉ ms:=fun c hc hm=>by have:=(hmk c hm).1;omega
  have hma:∀c,G'.amb c→c ∉ ms:=fun c hc hm=>(hmk c hm).2.2.2 hc
  have ag:Agr G1 G1 h1 w' w'':=⟨by rw[hsh.size];exact Nat.le_refl _,rfl,rfl,fun _ h=>h,fun c hc=>hsh.heap c (hma c (ht.amb c hc).2),fun b blk c q1 q2=>hsh.heap c (hma c (ht.own b blk c q1 q2)),fun b c m _ hm=>hsh.dead c m hm⟩
  have he:=ht.evo
  have he:Evo nx G w G1 w'':=⟨hsh.os.trans he.os,hsh.tape.trans he.tape,hsh.output.trans he.output,by rw[hsh.size];exact he.size,he.B,he.amb,fun c hc=>(hsh.heap c (hmw c (hr.amb_lt c hc))).trans (he.keep c hc),
   fun c m hm=>hsh.dead c m (he.csz c m hm),he.ids,fun c hc hn=>(hsh.heap c (hmw c hc)).trans (he.keepu c hc hn),he.ambn,he.idn⟩
  clear hmk
  obtain⟨vs,hK,hvs⟩:=resL_out (N:=fn.ntmps) hT hq
  obtain⟨us,hus,hvrs⟩:=hvs G' a' w'' hs'
  have hres:(results fn a'.tmps).run P w''=.ok (if h:us.toArray.size=1 then us.toArray[0]else .tuple us.toArray) w'':=by
   unfold results
   rw[Array.mapM_eq_mapM_toList]
   simp only[Sem.run_bind,Sem.run_map]
   have e:(fn.results.toList.mapM fun(x:ResultVar)=>(match x with|.tmp t=>(pure (a'.tmps.getD t undef):Sem Value)|.cell a t=>do loadVar t (← asAddr (a'.tmps.getD a undef)))).run P w''=.ok us w'':=hus
   erw [e]
   rfl
  have key:∃v,vr G' w'' v (if h:us.toArray.size=1 then us.toArray[0]else .tuple us.toArray)∧∃v' h' nx',Ends 0 s' v v' h' nx'∧Free v'∧Fresh v'∧R v' h1 nx1:=by
   have hl:=hvrs.1
   split at hK
   ·rename_i v
    have h1:us.toArray.size=1:=by simpa using hl.symm
    rw[dif_pos h1]
    have h1':0 < us.length:=by simp at h1;omega
    exact⟨v,by simpa using hvrs.2 0 v us[0] rfl (List.getElem?_eq_getElem h1'),hK⟩
   ·rename_i hne
    have h1:¬ us.toArray.size=1:=by
     intro h1
     have h1':vs.length=1:=by rw[hl];simpa using h1
     obtain⟨v,rfl⟩:=List.length_eq_one_iff.1 h1'
     exact hne v rfl
    rw[dif_neg h1]
    exact⟨.tup vs,.tup vs us hvrs.1 hvrs.2,hK⟩
  obtain⟨v,hvr,v',h',nx',hfin,hfree,hfresh,hR⟩:=key
  obtain⟨G3,q1,q2,q3,q4⟩:=hfin G' w'' _ hs'.hr (Nat.zero_le _) hvr
  have hB3:G3.B=G'.B:=q3.B
  refine⟨_,hres,_,v',h1,nx1,G1,G'.B,rfl,hR,ag.hr ht.hr,he,ht.nx,fun c hc=>(ht.amb c hc).1,ht.lt,ht.B,hs'.hr.B_le,?_⟩
  exact hfree _ _ _ _ _ (hfresh _ _ _ (imm (Gh.from w'' G'.B) w'') _ (fun a u hi=>⟨hi.1,⟨by have:=(hi.2.2.1 rfl).1;rw[hB3]at this;exact this,q1.amb_lt _ hi.2.1⟩,fun _=>⟨by have:=(hi.2.2.1 rfl).1;rw[hB3]at this;exact this,(hi.2.2.1 rfl).2⟩,hi.2.2.2⟩) q2)
 cases e' with
 | normal=>show LeavesInM _ _ _ _ _ _ a'.defers _ _;rw[hms];exact leaves_marks (fun r hr=>(hmk r hr).2.1) hpw (fin hq)
 | ret=>show LeavesInM _ _ _ _ _ _ a'.defers _ _;rw[hms];exact leaves_marks (fun r hr=>(hmk r hr).2.1) hpw (fin hq)
 | exit id=>exact hq.elim
 | goto id=>exact hq.elim
def keptC (t:List (Nat × V)) (u:Nat→Value):List (Nat × V)→Prop
 | []=>True
 | (i,v) :: r=>((look t i=v∧Free v∧Cold v)∨∃y,v=.pin (u i) y∧(y=.any∨(look t i=y∧Free y∧Cold y)))∧keptC t u r
theorem keptC.out {t:List (Nat × V)} {u:Nat→Value}:∀{t2:List (Nat × V)},keptC t u t2→∀i,look t2 i=.any∨(look t i=look t2 i∧Free (look t2 i)∧Cold (look t2 i))∨∃y,look t2 i=.pin (u i) y∧(y=.any∨(look t i=y∧Free y∧Cold y))
 | [],_,i=>.inl rfl
 | (j,v) :: r,h,i=>by
  rw[look_cons]
  by_cases hij:j=i
  ·subst hij;rw[if_pos rfl];exact .inr h.1
  ·rw[if_neg hij];exact keptC.out h.2 i
theorem wp_callB (hT:TabOk P T) (hF:FW F) {base id n:Nat} {ops:Array Oper} {s:St} {m fid d:Nat} {o:Oper} {c:Call} {KK:List (Nat × V)→Heap→Nat→(Nat→Value)→St→Prop} (hm:m < ops.toList.length) (ho:ops.toList[m]? = some o) (hop:o.op=.call c) (hcal:c.callee=.value (.func fid)) (hg:o.guard=none) (hdst:o.dst=some d) (hdN:d < N)
  (h:runOps P T N ops.toList (ops.toList.take m) s fun s'=>∃vs,evs none s' c.args.toList (fun ws=>ws=vs) ∧
   CallB P fid vs s'.h s'.nx (fun v h' nx'=>∀u,∃t2,keptC s'.t u t2∧runOps P T N ops.toList (ops.toList.drop (m + 1)) ⟨(d,v) :: t2,[],0⟩ (KK s'.t h' nx' u)))
  {G:Gh} {a:Act} {w:World} (hs:Sim G N s a w) (hb:base≤s.nx) {Qm:Exit→Act→World→Prop}
  (hQ:∀t1 h1 nx1 u s2 G1 G2 a' w',KK t1 h1 nx1 u s2→Two base G w G1 h1 nx1 G2 w'→(∀i,vr G1 w' (look t1 i) (u i))→Sim G2 N s2 a' w'→Gok G2→a'.defers=a.defers→Qm .normal a' w'):(Code.region id ops false).wpIn F n P Qm a w:=by
 refine wpIn_region ?_
 have hpre:=runOps_then (n:=n) (tl:=m :: List.range' (m + 1) (ops.toList.length - (m + 1))) hT hF (rest:=ops.toList.take m) (all:=ops.toList) (k:=0) (base:=base) (Q:=Qm) (fun i hi=>by rw[Nat.zero_add,List.getElem?_take_of_lt (by simp at hi;omega)]) h hs hb ?_
 ·rw[List.length_take,Nat.min_eq_left (by omega)]at hpre
  have e:List.range ops.size=List.range' 0 m ++ m :: List.range' (m + 1) (ops.toList.length - (m + 1)):=by
   have h1:=(List.range'_append (s:=0) (m:=m) (n:=ops.toList.length - m) (step:=1)).symm
   rw[List.range_eq_range',show ops.size=m + (ops.toList.length - m)by simp;simp at hm;omega,h1]
   congr 1
   rw[show ops.toList.length - m=(ops.toList.length - (m + 1))+ 1 by omega,List.range'_succ]
   simp
  rw[e]
  simpa using hpre
 rintro s' a1 w1 G1 ⟨vs,hvs,hcall⟩ hs1 he hb1 hdf
 have ho':ops[m]? = some o:=by simpa using ho
 obtain⟨vs',h',hlen,hvr⟩:=evs_out hvs
 subst h'
 have hvr:=hvr (.inl rfl) G1 N a1 w1 s' hs1 (fun _ _ _ _=>rfl)
 have hnd:∀c',o.op ≠ .defer c':=by rw[hop];simp
 have hwt:Region.wanted o (yielded ops a1.tmps)=true:=by simp[Region.wanted,hg]
 simp only[wpOpsIn,ho',hwt,if_true]
 refine⟨fun f _=>hF.fn f,?_⟩
 rw[Oper.semAt_eq _ _ _ hnd]
 have hargs:vrs G1 w1 vs' (c.args.toList.map a1.eval):=⟨by rw[hlen];simp,fun j v u q1 q2=>by
  rw[List.getElem?_map]at q2
  obtain⟨x,hx,rfl⟩:=Option.map_eq_some_iff.1 q2
  exact hvr j v x q1 hx⟩
 have e:(#[]:Array Value)++ c.args.map a1.eval ++ #[]=(c.args.toList.map a1.eval).toArray:=by apply Array.ext';simp
 have fin:∀(uv:Value) (w':World) (v:V) (h1:Heap) (nx1:Nat) (G':Gh) (B':Nat),(∀u,∃t2,keptC s'.t u t2∧runOps P T N ops.toList (ops.toList.drop (m + 1)) ⟨(d,v) :: t2,[],0⟩ (KK s'.t h1 nx1 u))→HR G' h1 nx1 w'→Evo s'.nx G1 w1 G' w'→s'.nx≤nx1 →
   (∀c,G'.amb c→c < B')→(∀b c,G'.ι b=some c→c < B')→w1.heap.size≤B'→B'≤w'.heap.size→vr (Gh.from w' B') w' v uv →
   wpOpsIn F n P ops Qm (List.range' (m + 1) (ops.toList.length - (m + 1))) (a1.put o.dst uv) w':=by
  intro uv w' v h1 nx1 G' B' hKK hr' he' hn ha hi hB hBs hv
  obtain⟨t2,hk,hrun⟩:=hKK (fun i=>a1.tmps.getD i undef)
  let G2:Gh:=⟨fun _=>none,fun c=>G'.amb c∨(∃b blk,hget h1 b=some blk∧G'.ι b=some c)∨(B'≤c∧c < w'.heap.size),B'⟩
  have hold:∀i,vr G' w' (look s'.t i) (a1.tmps.getD i undef):=fun i=>he'.vr hs1.hr.dom (hs1.tmp i)
  have ht:Two base G w G' h1 nx1 G2 w':=by
   have e2:Evo base G w G' w':=he.trans (he'.less hb1)
   refine⟨hr',e2,Nat.le_trans hb1 hn,fun c hc=>⟨ha c hc,.inl hc⟩,hi,fun b blk c q1 q2=>.inr (.inl ⟨b,blk,q1,q2⟩),Nat.le_trans he.size hB,(fun b c h=>by cases h),fun c hc hlt=>?_⟩
   rcases hc with hc|⟨b,_,_,hc⟩|⟨hc,_⟩
   ·exact e2.ambn c hc hlt
   ·exact .inr (e2.idn b c hc hlt)
   ·have:=he.size;omega
  have hgl:∀p∈glob,p.1 < B':=fun p hp=>ha _ (hr'.gl p hp).1
  have hfc:∀{v:V} {x:Value},Free v→Cold v→vr G' w' v x→vr G2 w' v x:=fun hf hc hv=>
   hf _ _ _ _ _ (hc _ _ _ (imm G2 w') _ (fun a u hi=>⟨hi.1,.inl hi.2.1,(fun h=>by cases h),hi.2.2.2⟩) hv)
  have hs2:Sim G2 N ⟨(d,v) :: t2,[],0⟩ (a1.put o.dst uv) w':=by
   refine⟨by rw[hdst];simp[Act.put,hs1.size],fun i=>?_,⟨fun c hc=>?_,hBs,fun _ _=>rfl,fun b blk h=>by simp[hget]at h,fun b b' k k' c h=>by simp[hget]at h,fun b k c h=>by simp[hget]at h,(fun b c h=>by cases h),fun b k h=>by simp[hget]at h,hr'.gl.to (fun _ h=>.inl h) (fun _ _=>rfl)⟩⟩
   ·show vr G2 w' (look ((d,v) :: t2) i) _
    rw[look_cons,hdst]
    by_cases hdi:d=i
    ·subst hdi
     rw[if_pos rfl]
     have hx:(a1.put (some d) uv).tmps.getD d undef=uv:=by
      simp only[Act.put,Array.getD_eq_getD_getElem?]
      rw[Array.getElem?_setIfInBounds_self_of_lt (by rw[hs1.size];exact hdN)]
      rfl
     rw[hx]
     exact VR.mono (fun b c h=>by cases h) (fun _ _ h=>h) (fun fr a u hi=>⟨hi.1,.inr (.inr hi.2.1),hi.2.2.1,hi.2.2.2⟩) hv
    ·rw[if_neg hdi]
     have hne:(a1.put (some d) uv).tmps.getD i undef=a1.tmps.getD i undef:=by
      simp only[Act.put,Array.getD_eq_getD_getElem?]
      rw[Array.getElem?_setIfInBounds_ne hdi]
     rw[hne]
     rcases hk.out i with h1|⟨h1,h3,h4⟩|⟨y,h1,h3⟩
     ·rw[h1];exact .any _
     ·have:=hold i
      rw[h1]at this
      exact hfc h3 h4 this
     ·rw[h1]
      rcases h3 with rfl|⟨h3,h4,h5⟩
      ·exact .pin _ _ (.any _)
      ·have:=hold i
       rw[h3]at this
       exact .pin _ _ (hfc h4 h5 this)
   ·rcases hc with hc|⟨b,_,_,hc⟩|hc
    ·exact hr'.amb_lt c hc
    ·exact hr'.lt b c hc
    ·exact hc.2
  have hgk:Gok G2:=⟨(fun b c h=>by cases h),hgl⟩
  have hpost:=runOps_then (n:=n) (tl:=[]) hT hF (rest:=ops.toList.drop (m + 1)) (all:=ops.toList) (k:=m + 1) (base:=0) (Q:=Qm) (fun i hi=>by rw[List.getElem?_drop]) hrun hs2 (Nat.zero_le _)
   (fun s2 a2 w2 G3 q1 q2 q3 _ q4=>?_)
  ·simpa using hpost
  ·have ag:Agr G' G' h1 w' w2:=⟨q3.size,rfl,rfl,fun _ h=>h,fun c hc=>q3.keep c (ht.amb c hc).2,fun b blk c hb hc=>q3.keep c (ht.own b blk c hb hc),fun b c m _ hm=>q3.csz c m hm⟩
   show wpOpsIn F n P ops.toList.toArray Qm [] a2 w2
   refine hQ _ _ _ _ _ _ _ _ _ q1 (ht.step q3) (fun i=>ag.vr (hold i)) q2 (gok_evo q3 hs2.hr hgk) ?_
   have:(a1.put o.dst uv).defers=a1.defers:=by cases o.dst<;>rfl
   rw[q4,this];exact hdf
 rcases hcall.2 _ w1 _ hs1.hr hargs with⟨hbd,hcs⟩|⟨_,u,w',hext,u',v,h1,nx1,G',B',hu',hK,hr',he',hn,ha,hi,hB,hBs,hv⟩
 ·have hrun:(execOp a1.eval o).run P w1=.ok (.enter fid (c.args.toList.map a1.eval).toArray) w1:=by
   have:=call_run hbd (c.args.toList.map a1.eval) w1
   simp only[execOp,hop,Sem.run_bind,resolve,hcal,Act.eval,Deferred.ofValue,Sem.run_pure,Result.andThen_ok,invoke]
   rw[e,this]
  rw[hrun]
  refine⟨fun hd=>by rw[hF.depth]at hd;simp at hd,hF.call (hcs.mono ?_)⟩
  rintro e w' ⟨u,v,h1,nx1,G',B',rfl,hK,hr',he',hn,ha,hi,hB,hBs,hv⟩
  exact fin u w' v h1 nx1 G' B' hK hr' he' hn ha hi hB hBs hv
 ·cases hu'
  have hrun:(execOp a1.eval o).run P w1=.ok (.value u) w':=by
   simp only[execOp,hop,Sem.run_bind,resolve,hcal,Act.eval,Deferred.ofValue,Sem.run_pure,Result.andThen_ok,invoke]
   rw[e,hext]
  rw[hrun]
  exact fin u w' v h1 nx1 G' B' hK hr' he' hn ha hi hB hBs hv
theorem vm_call (hT:TabOk P T) (hF:FW F) {base id:Nat} {ops:Array Oper} {s:St} {m fid d:Nat} {o:Oper} {c:Call} {K:Ex→Heap→Nat→St→Prop} (hm:m < ops.toList.length) (ho:ops.toList[m]? = some o) (hop:o.op=.call c) (hcal:c.callee=.value (.func fid)) (hg:o.guard=none) (hdst:o.dst=some d) (hdN:d < N)
  (h:runOps P T N ops.toList (ops.toList.take m) s fun s'=>∃vs,evs none s' c.args.toList (fun ws=>ws=vs) ∧
   CallB P fid vs s'.h s'.nx (fun v h' nx'=>∀u,∃t2,keptC s'.t u t2∧runOps P T N ops.toList (ops.toList.drop (m + 1)) ⟨(d,v) :: t2,[],0⟩ (fun s2=>K .normal h' nx' s2))):VM P F N base (.region id ops false) s K:=
 fun n G a w hs hb=>wp_callB (KK:=fun _ h' nx' _ s2=>K .normal h' nx' s2) hT hF hm ho hop hcal hg hdst hdN h hs hb fun t1 h1 nx1 u s2 G1 G2 a' w' q1 q2 q3 q4 _ q5=>⟨.normal,h1,nx1,G1,s2,G2,rfl,q1,q2,q4,Dfr.of_eq q5⟩
structure Low (base:Nat) (G:Gh) (w:World) (G1:Gh) (h1:Heap) (nx1 B:Nat) (w':World):Prop where
 hr:HR G1 h1 nx1 w'
 evo:Evo base G w G1 w'
 nx:base≤nx1
 amb:∀c,G1.amb c→c < B
 lt:∀b c,G1.ι b=some c→c < B
 B:w.heap.size≤B
theorem csz_lt {w:World} {c m:Nat} (h:csz w c=some m):c < w.heap.size:=by
 unfold csz at h
 cases hg:w.heap[c]? with
 | none=>rw[hg]at h;cases h
 | some o=>exact(Array.getElem?_eq_some_iff.1 hg).1
theorem csz_same {w w':World} {c m:Nat} (h:w'.heap[c]? = w.heap[c]?) (hc:csz w c=some m):csz w' c=some m:=by
 unfold csz at hc ⊢
 rw[h];exact hc
theorem Low.below {base:Nat} {G G1:Gh} {w w1 w':World} {h1:Heap} {nx1 B:Nat} (t:Low base G w G1 h1 nx1 B w1) (hb:Below B w1 w'):Low base G w G1 h1 nx1 B w'∧Agr G1 G1 h1 w1 w':=by
 have ag:Agr G1 G1 h1 w1 w':=⟨hb.size,rfl,rfl,fun _ h=>h,fun c hc=>hb.block c (t.amb c hc),fun b blk c _ hc=>hb.block c (t.lt b c hc),fun b c m hc hm=>csz_same (hb.block c (t.lt b c hc)) hm⟩
 have he:=t.evo
 refine⟨⟨ag.hr t.hr,⟨hb.os.trans he.os,hb.tape.trans he.tape,hb.output.trans he.output,Nat.le_trans he.size hb.size,he.B,he.amb,fun c hc=>(hb.block c (t.amb c (he.amb c hc))).trans (he.keep c hc),fun c m hm=>csz_same (hb.block c (Nat.lt_of_lt_of_le (csz_lt hm) t.B)) (he.csz c m hm),he.ids,fun c hc hn=>(hb.block c (Nat.lt_of_lt_of_le hc t.B)).trans (he.keepu c hc hn),he.ambn,he.idn⟩,t.nx,t.amb,t.lt,t.B⟩,ag⟩
def keptM (t:List (Nat × V)) (M:Nat→Bool):List (Nat × V)→Prop
 | []=>True
 | (i,v) :: r=>(look t i=v∧((Free v∧Cold v)∨∃b col,v=.ptr b col∧M b=true))∧keptM t M r
theorem keptM.out {t:List (Nat × V)} {M:Nat→Bool}:∀{t2:List (Nat × V)},keptM t M t2→∀i,look t2 i=.any∨(look t2 i=look t i∧((Free (look t2 i)∧Cold (look t2 i))∨∃b col,look t2 i=.ptr b col∧M b=true))
 | [],_,i=>.inl rfl
 | (j,v) :: r,h,i=>by
  rw[look_cons]
  by_cases hij:j=i
  ·subst hij;rw[if_pos rfl];exact .inr ⟨h.1.1.symm,h.1.2⟩
  ·rw[if_neg hij];exact keptM.out h.2 i
def keptB (h:Heap) (M:Nat→Bool):Heap→Prop
 | []=>True
 | (b,some (.var fr' ty cells)) :: r=>(M b=true∧fr'=false∧(∃fr,hget h b=some (.var fr ty cells))∧∀v∈cells,Free v∧Cold v)∧keptB h M r
 | _ :: _=>False
theorem keptB.out {h:Heap} {M:Nat→Bool}:∀{h2:Heap},keptB h M h2→∀b blk,hget h2 b=some blk→M b=true∧∃fr ty cells,hget h b=some (.var fr ty cells)∧blk=.var false ty cells∧∀v∈cells,Free v∧Cold v
 | [],_,b,blk,hb=>by simp[hget]at hb
 | (i,some (.var fr' ty cells)) :: r,hh,b,blk,hb=>by
  obtain⟨⟨q1,q2,⟨fr,q3⟩,q4⟩,q5⟩:=hh
  rw[hget_cons]at hb
  split at hb
  ·rename_i e
   subst e
   cases hb
   subst q2
   exact⟨q1,fr,ty,cells,q3,rfl,q4⟩
  ·exact keptB.out q5 b blk hb
def subH (h:Heap) (M:Nat→Bool):Heap→Prop
 | []=>True
 | (b,some blk) :: r=>(hget h b=some blk∧M b=false)∧subH h M r
 | _ :: _=>False
theorem subH.out {h:Heap} {M:Nat→Bool}:∀{h1:Heap},subH h M h1→∀b blk,hget h1 b=some blk→hget h b=some blk∧M b=false
 | [],_,b,blk,hb=>by simp[hget]at hb
 | (i,some k) :: r,hh,b,blk,hb=>by
  rw[hget_cons]at hb
  split at hb
  ·rename_i e
   subst e
   cases hb
   exact hh.1
  ·exact subH.out hh.2 b blk hb
theorem vm_mark' {base:Nat} {c:Code} {s:St} {K:Ex→Heap→Nat→St→Prop} (M:Nat→Bool) (nx:Nat) (t2:List (Nat × V)) (h2 h1:Heap) (hn:s.nx=nx) (ht:keptM s.t M t2) (hh:keptB s.h M h2) (hs:subH s.h M h1)
  (h:VC P F N 0 c ⟨t2,h2,nx⟩ (fun e s2=>K e h1 nx s2)):VM P F N base c s K:=by
 subst hn
 exact(vm_mark M t2 h2 h1 ht.out hh.out hs.out h).mono fun e h' nx' s2 ⟨q1,q2,q3⟩=>by subst q1;subst q2;exact q3
theorem vm_weak {base:Nat} {c:Code} {s s':St} {K:Ex→Heap→Nat→St→Prop} (hw:Wk base N s s') (h:VM P F N base c s' K):VM P F N base c s K:=fun n G a w hs hb=>by
 obtain⟨G',h1,h2,h3⟩:=hw G a w hs hb
 exact wpIn_mono (h n G' a w h1 h3) fun e a' w' hp=>hp.evo h2 (Dfr.of_eq rfl)
end
theorem pureV_var {P:Program} {f:FuncId} {args args0:List V} {v0:V} {h:Heap} {nx b:Nat} {fr:Bool} {ty:TypeId} {cells:List V}
  (hc:CallV P f args0 [(0,some (.var fr ty cells))] 1 (fun v' h' nx'=>v'=v0∧h'=[(0,some (.var fr ty cells))]∧nx'=1))
  (hv0:Free v0) (hb:hget h b=some (.var fr ty cells)) (hcells:∀v∈cells,Free v) (ha:LeL h nx (fun _=>b) 1 [] args args0):PureV P f args v0 h nx:=by
 refine⟨hc.1,fun G w us hr hv=>?_⟩
 have hl:LeH 0 h nx (fun _=>b) 1 [] [(0,some (.var fr ty cells))]:=⟨fun b' blk hb'=>by
   rw[hget_cons]at hb'
   split at hb'
   ·rename_i e;subst e;cases hb'
    refine⟨by omega,.inl ⟨by simp,_,hb,id,rfl,?_⟩⟩
    clear hc hb hv ha hr
    induction cells with
    | nil=>trivial
    | cons v r ih=>exact⟨.free (hcells v (by simp)),ih (fun v hv=>hcells v (by simp[hv]))⟩
   ·simp[hget]at hb',fun b1 b2 h1 h2 _=>by
   rw[hget_cons]at h1 h2
   split at h1
   ·split at h2
    ·omega
    ·simp[hget]at h2
   ·simp[hget]at h1,fun b hb=>by omega,Nat.zero_le _,by simp⟩
 obtain⟨hr0,_⟩:=hl.ok hr
 refine(hc.2 _ w us hr0 (ha.vrs hr hv)).mono ?_
 rintro e w' ⟨u,v,h',nx',G1,rfl,⟨rfl,rfl,rfl⟩,hv1,hr1,E,_⟩
 obtain⟨c,cs,hbc,_⟩:Holds G w b fr true ty cells:=hr.own b _ hb
 have h00:(G.to (fun _=>b) 1 []).ι 0=some c:=by simpa[Gh.to]using hbc
 have hι0:∀i c',(G.to (fun _=>b) 1 []).ι i=some c'→c'=c:=by
  intro i c' hi
  simp only[Gh.to]at hi
  split at hi
  ·rw[hbc]at hi;cases hi;rfl
  ·cases hi
 have h10:G1.ι 0=some c:=E.ids 0 c (by omega) h00
 have hB:G1.B=G.B:=E.B
 have ham:∀c',G1.amb c'→c' < w.heap.size→G.amb c'∨c'=c:=by
  intro c' hc' hlt
  rcases E.ambn c' hc' hlt with(h1|⟨_,h1,_⟩)|⟨i,h1⟩
  ·exact .inl h1
  ·simp at h1
  ·exact .inr (hι0 i c' h1)
 have hapc:¬ G1.amb c:=hr1.apart 0 (.var fr ty cells) c (by simp[hget]) h10
 have he:EvoA G w ⟨G.ι,G1.amb,G.B⟩ w':=fun base=>⟨E.os,E.tape,E.output,E.size,rfl,fun c hc=>E.amb c (.inl hc),fun c hc=>E.keep c (.inl hc),E.csz,fun _ _ _ hc=>hc,fun c' hc hn=>E.keepu c' hc (fun i hi=>hn b (by rw[hbc,hι0 i c' hi])),
  fun c' hc' hlt=>by
   rcases ham c' hc' hlt with h1|rfl
   ·exact .inl h1
   ·exact absurd hc' hapc,fun b c hc _=>⟨b,hc⟩⟩
 have toG:∀{v:V} {u:Value},Free v→vr G1 w' v u→vr ⟨G.ι,G1.amb,G.B⟩ w' v u:=fun hf hv=>by
  refine hf _ _ _ _ _ (VR.mono (fun _ _ h=>h) (fun _ _ h=>h) (fun fr a u hi=>⟨hi.1,hi.2.1,fun hf=>by have:=hi.2.2.1 hf;rw[hB]at this;exact this,hi.2.2.2⟩) hv)
 have hother:∀b' blk c',hget h b'=some blk→G.ι b'=some c'→b ≠ b'→c' ≠ c:=by
  rintro b' blk c' h1 h2 h3 rfl
  exact h3 (hr.inj b b' _ _ _ hb h1 hbc h2)
 refine⟨u,⟨G.ι,G1.amb,G.B⟩,rfl,?_,⟨hr1.amb_lt,Nat.le_trans hr.B_le E.size,hr.dom,fun b' blk hb'=>?_,hr.inj,fun b' blk c' hb' hc' ha=>?_,fun b c hc=>Nat.lt_of_lt_of_le (hr.lt b c hc) E.size,hr.hdom,hr.gl.evo (he 0)⟩,he,rfl⟩
 ·exact toG hv0 hv1
 ·by_cases e:b=b'
  ·subst e
   rw[hb]at hb'
   cases hb'
   obtain⟨c2,cs2,q1,q2,q3,q4,q5,q6,q7⟩:Holds G1 w' 0 fr true ty cells:=hr1.own 0 (.var fr ty cells) (by simp[hget])
   rw[h10]at q1
   obtain rfl:c=c2:=Option.some.inj q1
   refine⟨c,cs2,hbc,q2,q3,q4,fun hf=>by have:=q5 hf;rw[hB]at this;exact this,fun j v hj=>?_,q7⟩
   obtain⟨u,hu,h1,hvr⟩:=q6 j v hj
   exact⟨u,hu,h1,toG (hcells v (List.mem_of_getElem? hj)) hvr⟩
  ·exact(hr.own b' blk hb').keep he (fun c' hc'=>E.keepu c' (hr.lt b' c' hc') (fun i hi=>hother b' blk c' hb' hc' e (hι0 i c' hi))) (fun hn=>hn)
 ·by_cases e:b=b'
  ·subst e
   rw[hbc]at hc';cases hc'
   exact hapc ha
  ·rcases ham c' ha (hr.lt b' c' hc')with h1|h1
   ·exact hr.apart b' blk c' hb' hc' h1
   ·exact hother b' blk c' hb' hc' e h1
end
theorem hget_nones:∀(Z:List Nat) (h:Heap) (b:Nat),hget (Z.map (fun z=>(z,none))++ h) b=if b∈Z then none else hget h b
 | [],h,b=>by simp
 | z :: Z,h,b=>by
  rw[List.map_cons,List.cons_append,hget_cons,hget_nones Z h b]
  by_cases e:z=b
  ·subst e;simp
  ·have e':¬ b=z:=fun h=>e h.symm
   simp only[e,if_false,List.mem_cons,e',false_or]
theorem updV_var {P:Program} {f:FuncId} {args args0:List V} {v0:V} {h:Heap} {nx b:Nat} {fr:Bool} {ty:TypeId} {cells cells':List V} {Z:List Nat}
  (hc:CallV P f args0 [(0,some (.var fr ty cells))] 1 (fun v' h' nx'=>v'=v0∧h'=[(0,some (.var fr ty cells'))]∧nx'=1)) (hv0:Free v0)
  (hb:hget h b=some (.var fr ty cells)) (hbZ:b ∉ Z) (hz:∀z∈Z,hget h z ≠ none) (hcells:∀v∈cells,Free v) (hcells':∀v∈cells',Free v) (ha:LeL h nx (fun _=>b) 1 Z args args0) :
  UpdV P f args v0 ((b,some (.var fr ty cells')) :: Z.map (fun z=>(z,none))) h nx:=by
 refine⟨hc.1,fun G w us hr hv=>?_⟩
 have hl:LeH 0 h nx (fun _=>b) 1 Z [(0,some (.var fr ty cells))]:=⟨fun b' blk hb'=>by
   rw[hget_cons]at hb'
   split at hb'
   ·rename_i e;subst e;cases hb'
    refine⟨by omega,.inl ⟨hbZ,_,hb,id,rfl,?_⟩⟩
    clear hc hb hv ha hr
    induction cells with
    | nil=>trivial
    | cons v r ih=>exact⟨.free (hcells v (by simp)),ih (fun v hv=>hcells v (by simp[hv]))⟩
   ·simp[hget]at hb',fun b1 b2 h1 h2 _=>by
   rw[hget_cons]at h1 h2
   split at h1
   ·split at h2
    ·omega
    ·simp[hget]at h2
   ·simp[hget]at h1,fun b hb=>by omega,Nat.zero_le _,hz⟩
 obtain⟨hr0,_⟩:=hl.ok hr
 refine(hc.2 _ w us hr0 (ha.vrs hr hv)).mono ?_
 rintro e w' ⟨u,v,h',nx',G1,rfl,⟨rfl,rfl,rfl⟩,hv1,hr1,E,_⟩
 obtain⟨c,cs,hbc,_⟩:Holds G w b fr true ty cells:=hr.own b _ hb
 have h00:(G.to (fun _=>b) 1 Z).ι 0=some c:=by simpa[Gh.to]using hbc
 have hι0:∀i c',(G.to (fun _=>b) 1 Z).ι i=some c'→c'=c:=by
  intro i c' hi
  simp only[Gh.to]at hi
  split at hi
  ·rw[hbc]at hi;cases hi;rfl
  ·cases hi
 have h10:G1.ι 0=some c:=E.ids 0 c (by omega) h00
 have hB:G1.B=G.B:=E.B
 have ham:∀c',G1.amb c'→c' < w.heap.size→G.amb c'∨(∃z,z∈Z∧G.ι z=some c')∨c'=c:=by
  intro c' hc' hlt
  rcases E.ambn c' hc' hlt with(h1|h1)|⟨i,h1⟩
  ·exact .inl h1
  ·exact .inr (.inl h1)
  ·exact .inr (.inr (hι0 i c' h1))
 have hapc:¬ G1.amb c:=hr1.apart 0 (.var fr ty cells') c (by simp[hget]) h10
 have he:EvoA G w ⟨G.ι,G1.amb,G.B⟩ w':=fun base=>⟨E.os,E.tape,E.output,E.size,rfl,fun c hc=>E.amb c (.inl hc),fun c hc=>E.keep c (.inl hc),E.csz,fun _ _ _ hc=>hc,fun c' hc hn=>E.keepu c' hc (fun i hi=>hn b (by rw[hbc,hι0 i c' hi])),
  fun c' hc' hlt=>by
   rcases ham c' hc' hlt with h1|⟨z,_,h1⟩|rfl
   ·exact .inl h1
   ·exact .inr ⟨z,h1⟩
   ·exact absurd hc' hapc,fun b c hc _=>⟨b,hc⟩⟩
 have toG:∀{v:V} {u:Value},Free v→vr G1 w' v u→vr ⟨G.ι,G1.amb,G.B⟩ w' v u:=fun hf hv=>by
  refine hf _ _ _ _ _ (VR.mono (fun _ _ h=>h) (fun _ _ h=>h) (fun fr a u hi=>⟨hi.1,hi.2.1,fun hf=>by have:=hi.2.2.1 hf;rw[hB]at this;exact this,hi.2.2.2⟩) hv)
 have hother:∀b' blk c',hget h b'=some blk→G.ι b'=some c'→b ≠ b'→c' ≠ c:=by
  rintro b' blk c' h1 h2 h3 rfl
  exact h3 (hr.inj b b' _ _ _ hb h1 hbc h2)
 have hin:∀b' blk,hget (((b,some (.var fr ty cells')) :: Z.map (fun z=>(z,none)))++ h) b'=some blk→(b=b'∧blk=.var fr ty cells')∨(b ≠ b'∧b' ∉ Z∧hget h b'=some blk):=by
  intro b' blk hb'
  rw[List.cons_append,hget_cons,hget_nones]at hb'
  split at hb'
  ·rename_i e;exact .inl ⟨e,(Option.some.inj hb').symm⟩
  ·rename_i e
   split at hb'
   ·cases hb'
   ·rename_i hz';exact .inr ⟨e,hz',hb'⟩
 have hold:∀b' blk,hget (((b,some (.var fr ty cells')) :: Z.map (fun z=>(z,none)))++ h) b'=some blk→∃k,hget h b'=some k:=by
  intro b' blk hb'
  rcases hin b' blk hb' with⟨rfl,_⟩|⟨_,_,h1⟩
  ·exact⟨_,hb⟩
  ·exact⟨_,h1⟩
 refine⟨u,⟨G.ι,G1.amb,G.B⟩,rfl,toG hv0 hv1,⟨hr1.amb_lt,Nat.le_trans hr.B_le E.size,hr.dom,fun b' blk hb'=>?_,fun b1 b2 k1 k2 c' q1 q2=>?_,fun b' blk c' hb' hc' hacc=>?_,fun b c hc=>Nat.lt_of_lt_of_le (hr.lt b c hc) E.size,fun b' blk hb'=>?_,hr.gl.evo (he 0)⟩,he,rfl⟩
 ·rcases hin b' blk hb' with⟨rfl,rfl⟩|⟨e,hz',h1⟩
  ·obtain⟨c2,cs2,q1,q2,q3,q4,q5,q6,q7⟩:Holds G1 w' 0 fr true ty cells':=hr1.own 0 (.var fr ty cells') (by simp[hget])
   rw[h10]at q1
   obtain rfl:c=c2:=Option.some.inj q1
   refine⟨c,cs2,hbc,q2,q3,q4,fun hf=>by have:=q5 hf;rw[hB]at this;exact this,fun j v hj=>?_,q7⟩
   obtain⟨u,hu,h1,hvr⟩:=q6 j v hj
   exact⟨u,hu,h1,toG (hcells' v (List.mem_of_getElem? hj)) hvr⟩
  ·exact(hr.own b' blk h1).keep he (fun c' hc'=>E.keepu c' (hr.lt b' c' hc') (fun i hi=>hother b' blk c' h1 hc' e (hι0 i c' hi))) (fun hn=>hn)
 ·obtain⟨k1',g1⟩:=hold b1 k1 q1
  obtain⟨k2',g2⟩:=hold b2 k2 q2
  exact hr.inj b1 b2 k1' k2' c' g1 g2
 ·rcases hin b' blk hb' with⟨rfl,rfl⟩|⟨e,hz',h1⟩
  ·rw[hbc]at hc';cases hc'
   exact hapc hacc
  ·rcases ham c' hacc (hr.lt b' c' hc')with h2|⟨z,hzz,h2⟩|h2
   ·exact hr.apart b' blk c' h1 hc' h2
   ·cases hg:hget h z with
    | none=>exact hz z hzz hg
    | some k=>exact hz' (by rw[hr.inj b' z blk k c' h1 hg hc' h2];exact hzz)
   ·exact hother b' blk c' h1 hc' e h2
 ·obtain⟨k,g⟩:=hold b' blk hb'
  exact hr.hdom b' k g
section
set_option maxRecDepth 100000
def zz8:Value:=.int .u8 0
def zz4:Value:=.int .u32 0
def zzU:Value:=.int .u64 0
def zzI:Value:=.int .i64 0
def zzJ:Value:=.int .i32 0
def zzP:Value:=.pointer none
def zzB:Value:=.bool false
def zzL:Value:=.slice none 0 0
def zzF:Value:=.nilFunc
def zzS:Value:=.string ⟨⟨[]⟩⟩
def zzA (l:List Value):Value:=.agg ⟨l⟩
def zzT (l:List Value):Value:=.tuple ⟨l⟩
def zzt:TI:=⟨.func,1,8,[zzF],false,false⟩
def tab:Tab:=tabOf [⟨TK.tuple,1,0,[Value.tuple #[]],false,false⟩,zzt,⟨TK.int IntKind.i64,1,8,[zzI],true,true⟩,⟨TK.int IntKind.i64,1,8,[zzI],true,true⟩,⟨TK.bool,1,1,[zzB],true,true⟩,⟨TK.int IntKind.u8,1,1,[zz8],true,true⟩,⟨TK.int IntKind.u8,1,1,[zz8],true,true⟩,⟨TK.struct [(0,2),(1,3),(2,4),(3,6)],4,24,[zzI,zzI,zzB,zz8],true,true⟩,⟨TK.struct [(0,2),(1,3),(2,4),(3,6)],4,24,[zzI,zzI,zzB,zz8],false,false⟩,⟨TK.str,1,16,[zzS],true,true⟩,⟨TK.str,1,16,[zzS],true,true⟩,⟨TK.str,1,16,[zzS],true,true⟩,⟨TK.int IntKind.u64,1,8,[zzU],true,true⟩,⟨TK.struct [(0,9),(1,12)],2,24,[zzS,zzU],false,false⟩,⟨TK.struct [(0,9),(1,12)],2,24,[zzS,zzU],false,false⟩,⟨TK.ptr 293,1,8,[zzP],false,false⟩,⟨TK.ptr 296,1,8,[zzP],false,false⟩,⟨TK.ptr 304,1,8,[zzP],false,false⟩,⟨TK.struct [(0,17)],1,8,[zzP],false,false⟩,⟨TK.struct [(0,17)],1,8,[zzP],false,false⟩,⟨TK.iface,1,16,[Value.nilIface],false,false⟩,⟨TK.int IntKind.i32,1,4,[zzJ],true,true⟩,⟨TK.int IntKind.u32,1,4,[zz4],true,true⟩,⟨TK.struct [(0,22),(1,22),(2,22)],3,12,[zz4,zz4,zz4],true,true⟩,⟨TK.struct [(0,22),(1,22),(2,22)],3,12,[zz4,zz4,zz4],true,true⟩,⟨TK.struct [(0,22),(1,22),(2,22),(3,4)],4,16,[zz4,zz4,zz4,zzB],true,true⟩,⟨TK.struct [(0,22),(1,22),(2,22),(3,4)],4,16,[zz4,zz4,zz4,zzB],true,true⟩,⟨TK.slice 132,1,24,[zzL],false,false⟩,⟨TK.struct [(0,27),(1,4)],2,32,[zzL,zzB],false,false⟩,⟨TK.struct [(0,27),(1,4)],2,32,[zzL,zzB],false,false⟩,⟨TK.struct [(0,22),(1,5)],2,8,[zz4,zz8],true,true⟩,⟨TK.struct [(0,22),(1,5)],2,8,[zz4,zz8],true,true⟩,⟨TK.slice 91,1,24,[zzL],false,false⟩,⟨TK.slice 22,1,24,[zzL],false,false⟩,⟨TK.struct [(0,5),(1,32),(2,22),(3,4),(4,22),(5,4),(6,22),(7,33)],8,80,[zz8,zzL,zz4,zzB,zz4,zzB,zz4,zzL],false,false⟩,⟨TK.struct [(0,5),(1,32),(2,22),(3,4),(4,22),(5,4),(6,22),(7,33)],8,80,[zz8,zzL,zz4,zzB,zz4,zzB,zz4,zzL],false,false⟩,⟨TK.struct [(0,31),(2,35),(10,26)],14,104,[zz4,zz8,zz8,zzL,zz4,zzB,zz4,zzB,zz4,zzL,zz4,zz4,zz4,zzB],false,false⟩,⟨TK.struct [(0,31),(2,35),(10,26)],14,104,[zz4,zz8,zz8,zzL,zz4,zzB,zz4,zzB,zz4,zzL,zz4,zz4,zz4,zzB],false,false⟩,zzt,⟨TK.slice 37,1,24,[zzL],false,false⟩,zzt,⟨TK.ptr 97,1,8,[zzP],false,false⟩,⟨TK.int IntKind.i64,1,8,[zzI],true,true⟩,⟨TK.tuple,1,0,[(zzT [zzP,zzI])],false,false⟩,zzt,⟨TK.slice 110,1,24,[zzL],false,false⟩,⟨TK.struct [(0,24),(3,26),(7,29),(9,45)],10,88,[zz4,zz4,zz4,zz4,zz4,zz4,zzB,zzL,zzB,zzL],false,false⟩,⟨TK.struct [(0,24),(3,26),(7,29),(9,45)],10,88,[zz4,zz4,zz4,zz4,zz4,zz4,zzB,zzL,zzB,zzL],false,false⟩,⟨TK.tuple,1,0,[(zzT [(zzA [zz4,zz4,zz4,zz4,zz4,zz4,zzB,zzL,zzB,zzL]),zzI])],false,false⟩,zzt,zzt,⟨TK.tuple,1,0,[(zzT [(zzA [zz8,zzL,zz4,zzB,zz4,zzB,zz4,zzL]),zzB])],false,false⟩,zzt,zzt,zzt,⟨TK.slice 57,1,24,[zzL],false,false⟩,⟨TK.struct [(0,3),(1,39),(2,29)],4,64,[zzI,zzL,zzL,zzB],false,false⟩,⟨TK.struct [(0,3),(1,39),(2,29)],4,64,[zzI,zzL,zzL,zzB],false,false⟩,⟨TK.tuple,1,0,[(zzT [(zzA [zz4,zz4,zz4,zz4,zz4,zz4,zzB,zzL,zzB,zzL]),zzB])],false,false⟩,zzt,zzt,zzt,zzt,⟨TK.slice 86,1,24,[zzL],false,false⟩,⟨TK.tuple,1,0,[(zzT [zzL,zzI])],false,false⟩,zzt,zzt,zzt,zzt,zzt,zzt,zzt,zzt,zzt,zzt,zzt,zzt,⟨TK.slice 39,1,24,[zzL],false,false⟩,⟨TK.ptr 121,1,8,[zzP],false,false⟩,⟨TK.tuple,1,0,[(zzT [zzP,zzI])],false,false⟩,zzt,⟨TK.slice 168,1,24,[zzL],false,false⟩,⟨TK.tuple,1,0,[(zzT [zzL,zzI])],false,false⟩,zzt,⟨TK.slice 31,1,24,[zzL],false,false⟩,⟨TK.struct [(0,84),(1,84),(2,35)],10,128,[zzL,zzL,zz8,zzL,zz4,zzB,zz4,zzB,zz4,zzL],false,false⟩,⟨TK.struct [(0,84),(1,84),(2,35)],10,128,[zzL,zzL,zz8,zzL,zz4,zzB,zz4,zzB,zz4,zzL],false,false⟩,zzt,zzt,zzt,⟨TK.struct [(0,4),(1,33)],2,32,[zzB,zzL],false,false⟩,⟨TK.struct [(0,4),(1,33)],2,32,[zzB,zzL],false,false⟩,zzt,zzt,⟨TK.map 31 35,1,8,[Value.map none],false,false⟩,⟨TK.map 31 35,1,8,[Value.map none],false,false⟩,⟨TK.struct [(0,24),(3,26),(7,29),(9,95)],10,72,[zz4,zz4,zz4,zz4,zz4,zz4,zzB,zzL,zzB,Value.map none],false,false⟩,⟨TK.struct [(0,24),(3,26),(7,29),(9,95)],10,72,[zz4,zz4,zz4,zz4,zz4,zz4,zzB,zzL,zzB,Value.map none],false,false⟩,zzt,zzt,zzt,⟨TK.slice 40,1,24,[zzL],false,false⟩,zzt,⟨TK.ptr 35,1,8,[zzP],false,false⟩,zzt,zzt,⟨TK.tuple,1,0,[(zzT [(zzA [zz4,zz4,zz4,zz4,zz4,zz4,zzB,zzL,zzB,zzL]),zzL,zzI])],false,false⟩,zzt,zzt,⟨TK.struct [(0,31),(2,35)],10,88,[zz4,zz8,zz8,zzL,zz4,zzB,zz4,zzB,zz4,zzL],false,false⟩,⟨TK.struct [(0,31),(2,35)],10,88,[zz4,zz8,zz8,zzL,zz4,zzB,zz4,zzB,zz4,zzL],false,false⟩,⟨TK.map 31 4,1,8,[Value.map none],false,false⟩,zzt,zzt,zzt,zzt,zzt,zzt,zzt,⟨TK.map 31 35,1,8,[Value.map none],false,false⟩,⟨TK.struct [(0,26),(4,22),(5,29),(7,119)],8,64,[zz4,zz4,zz4,zzB,zz4,zzL,zzB,Value.map none],false,false⟩,⟨TK.struct [(0,26),(4,22),(5,29),(7,119)],8,64,[zz4,zz4,zz4,zzB,zz4,zzL,zzB,Value.map none],false,false⟩,zzt,zzt,zzt,zzt,zzt,⟨TK.slice 5,1,24,[zzL],false,false⟩,zzt,zzt,zzt,⟨TK.struct [(0,31),(2,5),(3,5),(4,4),(5,22),(6,22),(7,4),(8,4),(9,4),(10,4),(11,22),(12,22),(13,22),(14,5)],15,40,[zz4,zz8,zz8,zz8,zzB,zz4,zz4,zzB,zzB,zzB,zzB,zz4,zz4,zz4,zz8],true,true⟩,⟨TK.struct [(0,31),(2,5),(3,5),(4,4),(5,22),(6,22),(7,4),(8,4),(9,4),(10,4),(11,22),(12,22),(13,22),(14,5)],15,40,[zz4,zz8,zz8,zz8,zzB,zz4,zz4,zzB,zzB,zzB,zzB,zz4,zz4,zz4,zz8],true,true⟩,zzt,zzt,zzt,zzt,⟨TK.tuple,1,0,[(zzT [(zzA [zz8,zzL,zz4,zzB,zz4,zzB,zz4,zzL]),zzB,zzI])],false,false⟩,zzt,⟨TK.tuple,1,0,[(zzT [(zzA [zz8,zzL,zz4,zzB,zz4,zzB,zz4,zzL]),zzI])],false,false⟩,zzt,zzt,zzt,⟨TK.tuple,1,0,[(zzT [(zzA [zz8,zzL,zz4,zzB,zz4,zzB,zz4,zzL]),zzB,zzI])],false,false⟩,zzt,⟨TK.tuple,1,0,[(zzT [(zzA [zz8,zzL,zz4,zzB,zz4,zzB,zz4,zzL]),zzI])],false,false⟩,zzt,zzt,zzt,zzt,zzt,zzt,⟨TK.ptr 86,1,8,[zzP],false,false⟩,zzt,zzt,zzt,zzt,zzt,zzt,zzt,zzt,zzt,zzt,zzt,zzt,zzt,zzt,⟨TK.struct [(0,31),(2,4),(3,35)],11,96,[zz4,zz8,zzB,zz8,zzL,zz4,zzB,zz4,zzB,zz4,zzL],false,false⟩,⟨TK.struct [(0,31),(2,4),(3,35)],11,96,[zz4,zz8,zzB,zz8,zzL,zz4,zzB,zz4,zzB,zz4,zzL],false,false⟩,zzt,zzt,zzt,zzt,zzt,zzt,⟨TK.tuple,1,0,[(zzT [zzL,zzI])],false,false⟩,zzt,zzt,zzt,zzt,zzt,zzt,zzt,zzt,zzt,zzt,zzt,zzt,zzt,zzt,zzt,zzt,zzt,zzt,zzt,zzt,zzt,zzt,zzt,zzt,zzt,zzt,zzt,zzt,zzt,zzt,zzt,zzt,zzt,⟨TK.struct [(0,5),(1,5),(2,142),(3,207),(4,208)],5,32,[zz8,zz8,zzF,zzF,zzF],false,false⟩,⟨TK.struct [(0,5),(1,5),(2,142),(3,207),(4,208)],5,32,[zz8,zz8,zzF,zzF,zzF],false,false⟩,⟨TK.slice 127,1,24,[zzL],false,false⟩,zzt,zzt,zzt,zzt,⟨TK.int IntKind.u64,1,8,[zzU],true,true⟩,⟨TK.int IntKind.u64,1,8,[zzU],true,true⟩,zzt,zzt,zzt,⟨TK.tuple,1,0,[(zzT [zzI,zzB])],false,false⟩,zzt,zzt,zzt,zzt,⟨TK.slice 33,1,24,[zzL],false,false⟩,⟨TK.tuple,1,0,[(zzT [zzU,zzU])],false,false⟩,zzt,zzt,zzt,zzt,zzt,zzt,⟨TK.slice 3,1,24,[zzL],false,false⟩,zzt,zzt,⟨TK.slice 239,1,24,[zzL],false,false⟩,zzt,zzt,zzt,zzt,⟨TK.slice 210,1,24,[zzL],false,false⟩,zzt,zzt,zzt,zzt,zzt,zzt,zzt,zzt,⟨TK.tuple,1,0,[(zzT [zz4,zz4])],false,false⟩,zzt,⟨TK.tuple,1,0,[(zzT [zzU,zzU])],false,false⟩,zzt,zzt,zzt,zzt,zzt,zzt,⟨TK.int IntKind.i64,1,8,[zzI],true,true⟩,⟨TK.tuple,1,0,[(zzT [zzI,zzI])],false,false⟩,zzt,zzt,zzt,zzt,zzt,zzt,zzt,zzt,zzt,zzt,zzt,zzt,zzt,zzt,⟨TK.int IntKind.u64,1,8,[zzU],true,true⟩,zzt,zzt,zzt,⟨TK.ptr 3,1,8,[zzP],false,false⟩,zzt,zzt,zzt,zzt,zzt,zzt,⟨TK.ptr 276,1,8,[zzP],false,false⟩,⟨TK.tuple,1,0,[(zzT [zzI,zzI])],false,false⟩,zzt,zzt,zzt,⟨TK.struct [(0,17),(1,17),(2,17),(3,9)],4,40,[zzP,zzP,zzP,zzS],false,false⟩,⟨TK.struct [(0,17),(1,17),(2,17),(3,9)],4,40,[zzP,zzP,zzP,zzS],false,false⟩,⟨TK.array 0 16,0,0,[],false,false⟩,⟨TK.struct [(0,294)],0,0,[],false,false⟩,⟨TK.struct [(0,294)],0,0,[],false,false⟩,⟨TK.int IntKind.u8,1,1,[zz8],true,true⟩,⟨TK.int IntKind.u8,1,1,[zz8],true,true⟩,zzt,⟨TK.ptr 5,1,8,[zzP],false,false⟩,⟨TK.int IntKind.i32,1,4,[zzJ],true,true⟩,⟨TK.int IntKind.i32,1,4,[zzJ],true,true⟩,⟨TK.struct [(0,12),(1,12),(2,22),(3,297),(4,5),(5,5),(6,298),(7,299),(8,300),(9,301),(10,302)],11,48,[zzU,zzU,zz4,zz8,zz8,zz8,zz8,zzF,zzP,zzJ,zzJ],false,false⟩,⟨TK.struct [(0,12),(1,12),(2,22),(3,297),(4,5),(5,5),(6,298),(7,299),(8,300),(9,301),(10,302)],11,48,[zzU,zzU,zz4,zz8,zz8,zz8,zz8,zzF,zzP,zzJ,zzJ],false,false⟩,⟨TK.other,1,8,[zzP],false,false⟩]
theorem tab_ok:TabOk Go.Proofs.Tryz.prog tab:=tabOk_of _ _ 306 (by kernel_rfl)
end
end Go.Proofs.YteogfjpaljbkoaaGreat
namespace Go.Proofs
open Go.Shelf
def Tryz.sortPfx_ren:Go.Shelf.Ren:=⟨fun|6=>143|15=>174|14=>173|28=>224|29=>225|20=>216|21=>217|22=>218|23=>219|24=>220|25=>221|26=>222|27=>223|46=>238|47=>239|48=>240|49=>241|50=>242|57=>253|n=>n,fun|22=>84|24=>31|25=>160|3=>3|39=>217|0=>0|53=>22|55=>216|4=>4|46=>261|45=>260|50=>221|5=>5|9=>9|66=>276|70=>280|76=>287|77=>288|n=>n,fun|n=>n⟩
theorem Tryz.sortPfx:Go.Proofs.SlLaysF0.n6 Tryz.prog Tryz.sortPfx_ren:={
 mixed:=by kernel_rfl
 f6:=⟨Tryz.f143.name,by decide,Tryz.func143.trans (congrArg some (by kernel_rfl))⟩
 f14:=⟨Tryz.f173.name,by decide,Tryz.func173.trans (congrArg some (by kernel_rfl))⟩
 f15:=Tryz.func174.trans (congrArg some (by kernel_rfl))
 f20:=⟨Tryz.f216.name,by decide,Tryz.func216.trans (congrArg some (by kernel_rfl))⟩
 f21:=⟨Tryz.f217.name,by decide,Tryz.func217.trans (congrArg some (by kernel_rfl))⟩
 f22:=⟨Tryz.f218.name,by decide,Tryz.func218.trans (congrArg some (by kernel_rfl))⟩
 f23:=⟨Tryz.f219.name,by decide,Tryz.func219.trans (congrArg some (by kernel_rfl))⟩
 f24:=⟨Tryz.f220.name,by decide,Tryz.func220.trans (congrArg some (by kernel_rfl))⟩
 f25:=⟨Tryz.f221.name,by decide,Tryz.func221.trans (congrArg some (by kernel_rfl))⟩
 f26:=⟨Tryz.f222.name,by decide,Tryz.func222.trans (congrArg some (by kernel_rfl))⟩
 f27:=⟨Tryz.f223.name,by decide,Tryz.func223.trans (congrArg some (by kernel_rfl))⟩
 f28:=Tryz.func224.trans (congrArg some (by kernel_rfl))
 f29:=Tryz.func225.trans (congrArg some (by kernel_rfl))
 f46:=⟨Tryz.f238.name,by decide,Tryz.func238.trans (congrArg some (by kernel_rfl))⟩
 f47:=Tryz.func239.trans (congrArg some (by kernel_rfl))
 f48:=Tryz.func240.trans (congrArg some (by kernel_rfl))
 f49:=⟨Tryz.f241.name,by decide,Tryz.func241.trans (congrArg some (by kernel_rfl))⟩
 f50:=⟨Tryz.f242.name,by decide,Tryz.func242.trans (congrArg some (by kernel_rfl))⟩
 f57:=⟨Tryz.f253.name,by decide,Tryz.func253.trans (congrArg some (by kernel_rfl))⟩
 t0:=Tryz.underlying0
 a0:=Tryz.isAgg0
 z0:=Tryz.sizeOf0
 v0:=Tryz.zeroValue0
 t3:=Tryz.underlying3
 a3:=Tryz.isAgg3
 z3:=Tryz.sizeOf3
 v3:=Tryz.zeroValue3
 t4:=Tryz.underlying4
 a4:=Tryz.isAgg4
 z4:=Tryz.sizeOf4
 v4:=Tryz.zeroValue4
 t5:=Tryz.underlying5
 a5:=Tryz.isAgg5
 z5:=Tryz.sizeOf5
 v5:=Tryz.zeroValue5
 t9:=Tryz.underlying9
 a9:=Tryz.isAgg9
 z9:=Tryz.sizeOf9
 v9:=Tryz.zeroValue9
 t22:=Tryz.underlying84
 a22:=Tryz.isAgg84
 z22:=Tryz.sizeOf84
 v22:=Tryz.zeroValue84
 t25:=Tryz.underlying160
 a25:=Tryz.isAgg160
 z25:=Tryz.sizeOf160
 v25:=Tryz.zeroValue160
 t39:=Tryz.underlying217
 a39:=Tryz.isAgg217
 z39:=Tryz.sizeOf217
 v39:=Tryz.zeroValue217
 t45:=Tryz.underlying260
 a45:=Tryz.isAgg260
 z45:=Tryz.sizeOf260
 v45:=Tryz.zeroValue260
 t46:=Tryz.underlying261
 a46:=Tryz.isAgg261
 z46:=Tryz.sizeOf261
 v46:=Tryz.zeroValue261
 t50:=Tryz.underlying221
 a50:=Tryz.isAgg221
 z50:=Tryz.sizeOf221
 v50:=Tryz.zeroValue221
 t53:=Tryz.underlying22
 a53:=Tryz.isAgg22
 z53:=Tryz.sizeOf22
 v53:=Tryz.zeroValue22
 t55:=Tryz.underlying216
 a55:=Tryz.isAgg216
 z55:=Tryz.sizeOf216
 v55:=Tryz.zeroValue216
 t66:=Tryz.underlying276
 a66:=Tryz.isAgg276
 z66:=Tryz.sizeOf276
 v66:=Tryz.zeroValue276
 t70:=Tryz.underlying280
 a70:=Tryz.isAgg280
 z70:=Tryz.sizeOf280
 v70:=Tryz.zeroValue280
 t76:=Tryz.underlying287
 a76:=Tryz.isAgg287
 z76:=Tryz.sizeOf287
 v76:=Tryz.zeroValue287
 t77:=Tryz.underlying288
 a77:=Tryz.isAgg288
 z77:=Tryz.sizeOf288
 v77:=Tryz.zeroValue288 }
def Tryz.cloneMap_ren:Go.Shelf.Ren:=⟨fun|5=>57|7=>94|n=>n,fun|23=>119|25=>31|3=>35|4=>4|20=>20|n=>n,fun|n=>n⟩
theorem Tryz.cloneMap:Go.Proofs.SlLaysW.n5 Tryz.prog Tryz.cloneMap_ren:={
 mixed:=by kernel_rfl
 f5:=⟨Tryz.f57.name,by decide,Tryz.func57.trans (congrArg some (by kernel_rfl))⟩
 f7:=Tryz.func94.trans (congrArg some (by kernel_rfl))
 t4:=Tryz.underlying4
 a4:=Tryz.isAgg4
 z4:=Tryz.sizeOf4
 v4:=Tryz.zeroValue4
 t20:=Tryz.underlying20
 a20:=Tryz.isAgg20
 z20:=Tryz.sizeOf20
 v20:=Tryz.zeroValue20
 t23:=Tryz.underlying119
 a23:=Tryz.isAgg119
 z23:=Tryz.sizeOf119
 v23:=Tryz.zeroValue119 }
def Tryz.cloneMapO_ren:Go.Shelf.Ren:=⟨fun|5=>48|7=>94|n=>n,fun|23=>95|25=>31|3=>35|4=>4|20=>20|n=>n,fun|n=>n⟩
theorem Tryz.cloneMapO:Go.Proofs.SlLaysW.n5 Tryz.prog Tryz.cloneMapO_ren:={
 mixed:=by kernel_rfl
 f5:=⟨Tryz.f48.name,by decide,Tryz.func48.trans (congrArg some (by kernel_rfl))⟩
 f7:=Tryz.func94.trans (congrArg some (by kernel_rfl))
 t4:=Tryz.underlying4
 a4:=Tryz.isAgg4
 z4:=Tryz.sizeOf4
 v4:=Tryz.zeroValue4
 t20:=Tryz.underlying20
 a20:=Tryz.isAgg20
 z20:=Tryz.sizeOf20
 v20:=Tryz.zeroValue20
 t23:=Tryz.underlying95
 a23:=Tryz.isAgg95
 z23:=Tryz.sizeOf95
 v23:=Tryz.zeroValue95 }
end Go.Proofs
namespace Go.Proofs.YteogfjpaljbkoaaGreat
open Go.RowKit
section
open Go.Proofs.Tryz (prog)
theorem mixed:prog.follows .mixedOrders=true:=rfl
structure Leg where
 set:Bool
 ns:List UInt32
deriving DecidableEq
structure Attrs where
 origin:UInt8
 path:List Leg
 next:UInt32
 hasMed:Bool
 med:UInt32
 hasPref:Bool
 pref:UInt32
 tags:List UInt32
deriving DecidableEq
abbrev cB (x:UInt8):V:=.int .u8 x.toNat
abbrev cW (x:UInt32):V:=.int .u32 x.toNat
abbrev cI (n:Nat):V:=.int .i64 n
def encLeg (fr:Bool) (p:Leg):List V:=[.bool p.set,encW fr p.ns]
def encLegs (fr:Bool) (l:List Leg):V:=.sl fr 2 (l.map (encLeg fr))
def cellsA (fr:Bool) (a:Attrs):List V:=[cB a.origin,encLegs fr a.path,cW a.next,.bool a.hasMed,cW a.med,.bool a.hasPref,cW a.pref,encW fr a.tags]
def encA (fr:Bool) (a:Attrs):V:=.agg (cellsA fr a)
theorem encLeg_free (fr:Bool) (p:Leg):∀v∈encLeg fr p,Free v:=by
 intro v hv
 simp[encLeg]at hv
 rcases hv with rfl|rfl
 ·exact .bool
 ·exact encW_free _ _
theorem rowsLegs_free (fr:Bool) (l:List Leg):∀x∈l.map (encLeg fr),∀v∈x,Free v:=by
 intro x hx v hv
 obtain⟨p,_,rfl⟩:=List.mem_map.1 hx
 exact encLeg_free fr p v hv
theorem encLegs_free (fr:Bool) (l:List Leg):Free (encLegs fr l):=.sl (rowsLegs_free fr l)
theorem cellsA_free (fr:Bool) (a:Attrs):∀v∈cellsA fr a,Free v:=by
 intro v hv
 simp[cellsA]at hv
 rcases hv with rfl|rfl|rfl|rfl|rfl|rfl|rfl|rfl
 all_goals first|exact .int|exact .bool|exact encLegs_free _ _|exact encW_free _ _
theorem encA_free (fr:Bool) (a:Attrs):Free (encA fr a):=.agg (cellsA_free fr a)
theorem encLegs_cold (l:List Leg):Cold (encLegs false l):=.sl (by
 intro x hx v hv
 obtain⟨p,_,rfl⟩:=List.mem_map.1 hx
 simp[encLeg]at hv
 rcases hv with rfl|rfl
 ·exact .bool
 ·exact encW_cold _)
theorem encLegs_fresh (l:List Leg):Fresh (encLegs true l):=.sl (by
 intro x hx v hv
 obtain⟨p,_,rfl⟩:=List.mem_map.1 hx
 simp[encLeg]at hv
 rcases hv with rfl|rfl
 ·exact .bool
 ·exact encW_fresh _)
theorem encA_cold (a:Attrs):Cold (encA false a):=.agg (by
 intro v hv
 simp[cellsA]at hv
 rcases hv with rfl|rfl|rfl|rfl|rfl|rfl|rfl|rfl
 all_goals first|exact .int|exact .bool|exact encLegs_cold _|exact encW_cold _)
theorem encA_fresh (a:Attrs):Fresh (encA true a):=.agg (by
 intro v hv
 simp[cellsA]at hv
 rcases hv with rfl|rfl|rfl|rfl|rfl|rfl|rfl|rfl
 all_goals first|exact .int|exact .bool|exact encLegs_fresh _|exact encW_fresh _)
def FreeB:Blk→Prop
 | .var _ _ cells=>∀v∈cells,Free v
 | .arr _ _ _ _ rows=>∀x∈rows,∀v∈x,Free v
 | .map es=>∀kv∈es,Free kv.1∧Free kv.2
 | _=>False
theorem LeL.free {h:Heap} {nx nx':Nat} {ρ:Nat→Nat} {Z:List Nat}:∀{cells:List V},(∀v∈cells,Free v)→LeL h nx ρ nx' Z cells cells
 | [],_=>trivial
 | v :: r,hf=>⟨.free (hf v (by simp)),LeL.free (fun v hv=>hf v (by simp[hv]))⟩
theorem LeB.free {h:Heap} {nx nx':Nat} {ρ:Nat→Nat} {Z:List Nat} {blk:Blk} (hf:FreeB blk):LeB h nx ρ nx' Z blk blk:=by
 cases blk with
 | var fr ty cells=>exact⟨id,rfl,LeL.free hf⟩
 | arr fr ex ty sz rows=>exact .arr hf
 | loop=>exact hf.elim
 | iter=>exact hf.elim
 | map es=>exact⟨rfl,fun j kv kv' h1 h2=>by
   obtain rfl:=same_of h1 h2
   obtain⟨q1,q2⟩:=hf kv (List.mem_of_getElem? h1)
   exact⟨.free q1,.free q2⟩⟩
theorem LeB.rows {h:Heap} {nx nx':Nat} {ρ:Nat→Nat} {Z:List Nat} {fr ex:Bool} {ty sz:Nat} {rows rows':List (List V)} (hl:rows.length=rows'.length)
  (hr:∀(j:Nat) (x x':List V),rows[j]? = some x→rows'[j]? = some x'→LeL h nx ρ nx' Z x x'):LeB h nx ρ nx' Z (.arr fr ex ty sz rows) (.arr fr ex ty sz rows'):=by
 have key:∀(rows rows':List (List V)),rows.length=rows'.length→(∀(j:Nat) (x x':List V),rows[j]? = some x→rows'[j]? = some x'→LeL h nx ρ nx' Z x x') →
   rows.map List.length=rows'.map List.length∧∀(j:Nat) (v v':V),rows.flatten[j]? = some v→rows'.flatten[j]? = some v'→LeV h nx ρ nx' Z v v':=by
  intro rows
  induction rows with
  | nil=>intro rows' hl _;cases rows' with
   | nil=>simp
   | cons _ _=>simp at hl
  | cons x r ih=>
   intro rows' hl hr
   cases rows' with
   | nil=>simp at hl
   | cons x' r'=>
    obtain⟨q1,q2⟩:=ih r' (by simpa using hl) (fun j y y' h1 h2=>hr (j + 1) y y' (by simpa using h1) (by simpa using h2))
    have hx:=(hr 0 x x' rfl rfl).out
    refine⟨by simp[q1,hx.1],fun j v v' h1 h2=>?_⟩
    rw[List.flatten_cons]at h1 h2
    rcases Nat.lt_or_ge j x.length with hj|hj
    ·rw[List.getElem?_append_left hj]at h1
     rw[List.getElem?_append_left (by omega)]at h2
     exact hx.2 j v v' h1 h2
    ·rw[List.getElem?_append_right hj]at h1
     rw[List.getElem?_append_right (by omega),← hx.1]at h2
     exact q2 _ v v' h1 h2
 obtain⟨h1,h2⟩:=key rows rows' hl hr
 exact⟨id,id,rfl,rfl,h1,h2⟩
theorem LeB.set {h:Heap} {nx nx':Nat} {ρ:Nat→Nat} {Z:List Nat} {fr ex:Bool} {ty sz i:Nat} {rows:List (List V)} {x x':List V} (hf:∀x∈rows,∀v∈x,Free v) (hx:LeL h nx ρ nx' Z x x') :
  LeB h nx ρ nx' Z (.arr fr ex ty sz (rows.set i x)) (.arr fr ex ty sz (rows.set i x')):=
 LeB.rows (by simp) fun j y y' h1 h2=>by
  rw[List.getElem?_set]at h1 h2
  split at h1
  ·rename_i e
   subst e
   split at h1
   ·rename_i hlt
    rw[if_pos rfl,if_pos hlt]at h2
    cases h1;cases h2
    exact hx
   ·cases h1
  ·rename_i e
   rw[if_neg e]at h2
   rw[h1]at h2;cases h2
   exact LeL.free (hf _ (List.mem_of_getElem? h1))
theorem ne_none_of {ob:Option Blk} {x:Blk} (h:ob=some x):ob ≠ none:=by rw[h];simp
def sameH (h:Heap) (nx':Nat):Heap→Prop
 | []=>True
 | (b,some blk) :: r=>(hget h b=some blk∧FreeB blk∧b < nx')∧sameH h nx' r
 | (_,none) :: r=>sameH h nx' r
theorem sameH.out {h:Heap} {nx nx':Nat}:∀{h':Heap},sameH h nx' h'→leHL h nx id nx' [] h'
 | [],_=>trivial
 | (b,none) :: r,hh=>sameH.out (h':=r) hh
 | (b,some blk) :: r,hh=>⟨⟨hh.1.2.2,.inl ⟨by simp,blk,hh.1.1,LeB.free hh.1.2.1⟩⟩,sameH.out hh.2⟩
theorem LeH.same {base:Nat} {h h':Heap} {nx nx':Nat} (hs:sameH h nx' h') (hn:base≤nx'):LeH base h nx id nx' [] h':=
 LeH.of hs.out (fun _ _ _ _ h=>h) (fun _ _=>rfl) hn (by simp)
theorem idxW {l:List UInt32} {i:Nat} (h:i < l.length):(l.map fun x=>[V.int .u32 x.toNat])[(i:Int).toNat]? = some [.int .u32 l[i].toNat]:=by simp[h]
theorem idxL {fr:Bool} {l:List Leg} {i:Nat} (h:i < l.length):(l.map (encLeg fr))[(i:Int).toNat]? = some (encLeg fr l[i]):=by simp[h]
theorem wrap64_succ {n i:Nat} (h:i < n) (hn:n≤maxLen):IntKind.i64.wrap ((i:Int)+ 1)=((i + 1:Nat):Int):=by
 rw[wrap64]<;>unfold maxLen at hn<;>omega
theorem all_take_succ {α:Type} {p:α→Bool} {l:List α} {i:Nat} (h:i < l.length):(l.take (i + 1)).all p=((l.take i).all p && p l[i]):=by
 rw[List.take_succ_eq_append_getElem h,List.all_append];simp
theorem all_false {α:Type} {p:α→Bool} {l:List α} {i:Nat} (h:i < l.length) (hp:p l[i]=false):l.all p=false:=by
 rw[List.all_eq_false]
 exact⟨l[i],List.getElem_mem h,by simp[hp]⟩
end
section
open Go.Proofs.Tryz (prog)
attribute [local irreducible] CallV RoundV
def wordOf (b:List UInt8):UInt32:=b.foldl (fun n c=>n * 256 + c.toUInt32) 0
def rises:List UInt32→Bool
 | a :: b :: r=>decide (a < b)&& rises (b :: r)
 | _=>true
theorem rises_take_succ {l:List UInt32}:∀{i:Nat} (h:i + 1 < l.length),rises (l.take (i + 2))=(rises (l.take (i + 1))&& decide (l[i] < l[i + 1])):=by
 induction l with
 | nil=>intro i h;simp at h
 | cons a l ih=>
  intro i h
  cases l with
  | nil=>simp at h
  | cons b r=>
   cases i with
   | zero=>simp[rises]
   | succ i=>
    have:=ih (i:=i) (by simpa using h)
    simp only[List.take_succ_cons,List.getElem_cons_succ]at this ⊢
    cases i with
    | zero=>simp[rises]at this ⊢;rw[this]
    | succ i=>
     simp only[List.take_succ_cons,rises]at this ⊢
     rw[this]
     simp[Bool.and_assoc]
theorem rises_take_false {l:List UInt32} {i:Nat} (h:i≤l.length) (hf:rises (l.take i)=false):rises l=false:=by
 induction l generalizing i with
 | nil=>simp[rises]at hf
 | cons a l ih=>
  cases i with
  | zero=>simp[rises]at hf
  | succ i=>
   cases l with
   | nil=>simp[rises]at hf
   | cons b r=>
    cases i with
    | zero=>simp[rises]at hf
    | succ i=>
     have h2:=ih (i:=i + 1) (by simpa using h)
     simp only[List.take_succ_cons,rises,Bool.and_eq_false_iff]at hf h2 ⊢
     rcases hf with hf|hf
     ·exact .inl hf
     ·exact .inr (h2 hf)
theorem rise_ok (fr:Bool) (l:List UInt32):PCon prog 107 [encW fr l] (.bool (rises l)):=by
 refine callV_of (fn:=Go.Proofs.Tryz.f107) (body:=_) tab_ok mixed rfl rfl (by decide) (by simp[Go.Proofs.Tryz.f107]) ?_
 conv=>whnf
 intro hl
 have hl:l.length≤maxLen:=by simpa[gd]using hl
 conv=>whnf
 refine vcg_loop tab_ok mixed (fun i:{i:Nat // i≤l.length∧rises (l.take i)=true}=>⟨[(0,encW fr l),(5,.int .i64 l.length),(6,.int .i64 i.1)],[],0⟩) (fun i=>l.length - i.1) ⟨0,Nat.zero_le _,rfl⟩ (Wk.of id [] ⟨?_,?_,?_,trivial⟩ (LeH.nil (Nat.le_refl _) (fun b h=>by omega) (by simp))) (fun i=>?_)
 ·exact .free (encW_free _ _)
 ·exact .int_of (by simp)
 ·exact .int_of rfl
 obtain⟨i,hi,hr⟩:=i
 conv=>whnf
 split
 ·rename_i hc
  have hc:i < l.length:=by simpa using hc
  conv=>whnf
  split
  ·rename_i h0
   obtain⟨k,rfl⟩:∃k,i=k + 1:=⟨i - 1,by simp at h0;omega⟩
   have e1:IntKind.i64.wrap (((k + 1:Nat):Int) - 1)=k:=by rw[wrap64'] ;unfold maxLen at hl;omega
   refine⟨rfl,[.int .u32 (l[k]'(by omega)).toNat],⟨by simp only[e1];omega,by simp only[e1];exact idxW _⟩,?_⟩
   conv=>whnf
   refine⟨rfl,[.int .u32 (l[k + 1]).toNat],⟨by simp only;omega,idxW _⟩,?_⟩
   conv=>whnf
   refine⟨by kernel_rfl,?_⟩
   conv=>whnf
   split
   ·rename_i h1
    conv=>whnf
    refine Ends.pure [] (.bool_of ?_) (by simp)
    symm
    refine rises_take_false (i:=k + 2) (by omega) ?_
    rw[rises_take_succ hc]
    simp only[Bool.and_eq_false_iff,decide_eq_false_iff_not]
    right
    simpa[UInt32.lt_iff_toNat_lt]using h1
   ·rename_i h1
    conv=>whnf
    refine⟨⟨k + 2,by omega,?_⟩,Wk.of id [] ⟨?_,?_,?_,trivial⟩ (LeH.nil (Nat.le_refl _) (fun b h=>by omega) (by simp)),by simp only;omega⟩
    ·rw[rises_take_succ hc,hr]
     simpa[UInt32.lt_iff_toNat_lt]using h1
    ·exact .free (encW_free _ _)
    ·exact .int_of rfl
    ·refine .int_of ?_
     simp only
     rw[wrap64]<;>unfold maxLen at hl<;>omega
  ·rename_i h0
   have h0:i=0:=by simp at h0;omega
   subst h0
   conv=>whnf
   refine⟨by kernel_rfl,?_⟩
   conv=>whnf
   refine⟨⟨1,by omega,?_⟩,Wk.of id [] ⟨?_,?_,?_,trivial⟩ (LeH.nil (Nat.le_refl _) (fun b h=>by omega) (by simp)),by simp only;omega⟩
   ·cases l with
    | nil=>rfl
    | cons a l=>simp[rises]
   ·exact .free (encW_free _ _)
   ·exact .int_of rfl
   ·exact .int_of rfl
 ·rename_i hc
  have hc:i=l.length:=by simp at hc;omega
  subst hc
  conv=>whnf
  refine Ends.pure [] (.bool_of ?_) (by simp)
  simpa using hr.symm
end
section
open Go.Proofs.Tryz (prog)
attribute [local irreducible] CallV RoundV
theorem words_ok (fr fr':Bool) (a b:List UInt32):PCon prog 42 [encW fr a,encW fr' b] (.bool (decide (a=b))):=by
 refine callV_of (fn:=Go.Proofs.Tryz.f42) (body:=_) tab_ok mixed rfl rfl (by decide) (by simp[Go.Proofs.Tryz.f42]) ?_
 conv=>whnf
 intro ha
 have ha:a.length≤maxLen:=by simpa[gd]using ha
 conv=>whnf
 intro hb
 conv=>whnf
 split
 ·rename_i hne
  conv=>whnf
  refine Ends.pure [] (.bool_of ?_) (by simp)
  symm
  rw[decide_eq_false_iff_not]
  rintro rfl
  simp at hne
 ·rename_i hne
  have hlen:a.length=b.length:=by simp at hne;omega
  conv=>whnf
  refine vcg_loop tab_ok mixed (fun i:{i:Nat // i≤a.length∧a.take i=b.take i}=>⟨[(0,encW fr a),(1,encW fr' b),(5,.int .i64 i.1)],[],0⟩) (fun i=>a.length - i.1) ⟨0,by omega,rfl⟩ (Wk.of id [] ⟨?_,?_,?_,trivial⟩ (LeH.nil (Nat.le_refl _) (fun b h=>by omega) (by simp))) (fun i=>?_)
  ·exact .free (encW_free _ _)
  ·exact .free (encW_free _ _)
  ·exact .int_of rfl
  obtain⟨i,hi,hr⟩:=i
  conv=>whnf
  intro _
  conv=>whnf
  split
  ·rename_i hc
   have hc:i < a.length:=by simpa using hc
   conv=>whnf
   refine⟨rfl,_,⟨by simp only;omega,idxW hc⟩,?_⟩
   conv=>whnf
   refine⟨rfl,_,⟨by simp only;omega,idxW (show i < b.length by omega)⟩,?_⟩
   conv=>whnf
   refine⟨by kernel_rfl,?_⟩
   conv=>whnf
   split
   ·rename_i h1
    conv=>whnf
    refine Ends.pure [] (.bool_of ?_) (by simp)
    symm
    rw[decide_eq_false_iff_not]
    rintro rfl
    simp at h1
   ·rename_i h1
    have h1:a[i]=b[i]:=by
     simp at h1
     exact UInt32.toNat_inj.1 (by omega)
    conv=>whnf
    refine⟨⟨i + 1,by omega,?_⟩,Wk.of id [] ⟨?_,?_,?_,trivial⟩ (LeH.nil (Nat.le_refl _) (fun b h=>by omega) (by simp)),by simp only;omega⟩
    ·rw[List.take_succ_eq_append_getElem hc,List.take_succ_eq_append_getElem (show i < b.length by omega),hr,h1]
    ·exact .free (encW_free _ _)
    ·exact .free (encW_free _ _)
    ·exact .int_of (wrap64_succ hc ha)
  ·rename_i hc
   have hc:i=a.length:=by simp at hc;omega
   subst hc
   conv=>whnf
   refine Ends.pure [] (.bool_of ?_) (by simp)
   symm
   rw[decide_eq_true_iff]
   rw[List.take_length,hlen,List.take_length]at hr
   exact hr
def legOk (p:Leg):Bool:=decide (1≤p.ns.length)&& decide (p.ns.length≤32)&& (!p.set || rises p.ns)&& p.ns.all (· != 0)
def pathOk (l:List Leg):Bool:=decide (l.length≤8)&& l.all legOk
end
section
open Go.Proofs.Tryz (prog)
attribute [local irreducible] CallV RoundV
theorem index_ok (fr:Bool) (l:List UInt32) (x:UInt32):PCon prog 117 [encW fr l,cW x] (.int .i64 (if l.all (· != x)then -1 else(l.findIdx (· == x):Nat))):=by
 refine callV_of (fn:=Go.Proofs.Tryz.f117) (body:=_) tab_ok mixed rfl rfl (by decide) (by simp[Go.Proofs.Tryz.f117]) ?_
 conv=>whnf
 intro hl
 have hl:l.length≤maxLen:=by simpa[gd]using hl
 conv=>whnf
 refine vcg_loop tab_ok mixed (fun i:{i:Nat // i≤l.length∧(l.take i).all (· != x)=true}=>⟨[(0,encW fr l),(1,cW x),(7,cI l.length),(8,cI i.1)],[],0⟩) (fun i=>l.length - i.1) ⟨0,by omega,rfl⟩ (Wk.of id [] ⟨?_,?_,?_,?_,trivial⟩ (LeH.nil (Nat.le_refl _) (fun b h=>by omega) (by simp))) (fun i=>?_)
 ·exact .free (encW_free _ _)
 ·exact .int_of rfl
 ·exact .int_of (by simp)
 ·exact .int_of rfl
 obtain⟨i,hi,hz⟩:=i
 conv=>whnf
 split
 ·rename_i hc
  have hc:i < l.length:=by simpa using hc
  conv=>whnf
  refine⟨rfl,_,⟨by simp only;omega,idxW hc⟩,?_⟩
  conv=>whnf
  split
  ·rename_i h1
   have h1:l[i]=x:=by simp at h1;exact UInt32.toNat_inj.1 (by omega)
   conv=>whnf
   refine Ends.pure [] (.int_of ?_) (by simp)
   have:=all_false (p:=(· != x)) hc (by simp[h1])
   rw[if_neg (by rw[this];simp)]
   congr 1
   symm
   rw[List.findIdx_eq hc]
   refine⟨by simp[h1],fun j hj=>?_⟩
   rw[List.all_eq_true]at hz
   have:=hz (l[j]'(by omega)) (by rw[List.mem_take_iff_getElem];exact⟨j,by omega,rfl⟩)
   simpa using this
  ·rename_i h1
   conv=>whnf
   refine⟨⟨i + 1,by omega,?_⟩,Wk.of id [] ⟨?_,?_,?_,?_,trivial⟩ (LeH.nil (Nat.le_refl _) (fun b h=>by omega) (by simp)),by simp only;omega⟩
   ·rw[all_take_succ hc,hz]
    simp at h1
    simp only[Bool.true_and,bne_iff_ne,ne_eq]
    intro e
    rw[e]at h1
    simp at h1
   ·exact .free (encW_free _ _)
   ·exact .int_of rfl
   ·exact .int_of rfl
   ·exact .int_of (wrap64_succ hc hl)
 ·rename_i hc
  have hc:i=l.length:=by simp at hc;omega
  subst hc
  conv=>whnf
  refine Ends.pure [] (.int_of ?_) (by simp)
  rw[List.take_length]at hz
  rw[if_pos hz]
theorem contains_ok (fr:Bool) (l:List UInt32) (x:UInt32):PCon prog 64 [encW fr l,cW x] (.bool (!l.all (· != x))):=by
 refine callV_of (fn:=Go.Proofs.Tryz.f64) (body:=_) tab_ok mixed rfl rfl (by decide) (by simp[Go.Proofs.Tryz.f64]) ?_
 conv=>whnf
 refine callV_pure (index_ok fr l x) ⟨.free (encW_free _ _),.free .int,trivial⟩ ?_
 conv=>whnf
 refine Ends.pure [] (.bool_of ?_) (by simp)
 split
 ·rename_i h;simp[h]
 ·rename_i h;simp at h;simp[h]
theorem path1_ok (fr:Bool) (p:Leg):PCon prog 149 [.agg (encLeg fr p)] (.bool (!legOk p)):=by
 refine callV_of (fn:=Go.Proofs.Tryz.f149) (body:=_) tab_ok mixed rfl rfl (by decide) (by simp[Go.Proofs.Tryz.f149]) ?_
 conv=>whnf
 intro hl
 have hl:p.ns.length≤maxLen:=by simpa[gd]using hl
 have fin:∀{s:St} {b:Bool},legOk p=!b→∃v1 h' nx',Ends 0 s (.bool b) v1 h' nx'∧(v1=.bool (!legOk p)∧h'=[]∧nx'=0):=fun h=>Ends.pure [] (.bool_of (by rw[h];simp)) (by simp)
 conv=>whnf
 split
 ·rename_i h0
  conv=>whnf
  exact fin (by simp at h0;simp[legOk];omega)
 rename_i h0
 have h0:1≤p.ns.length:=by simp at h0;omega
 conv=>whnf
 intro _
 conv=>whnf
 split
 ·rename_i h1
  conv=>whnf
  exact fin (by simp at h1;simp[legOk];omega)
 rename_i h1
 have h1:p.ns.length≤32:=by simp at h1;omega
 conv=>whnf
 refine callV_pure (contains_ok fr p.ns 0) ⟨.free (encW_free _ _),.free .int,trivial⟩ ?_
 conv=>whnf
 split
 ·rename_i h2
  conv=>whnf
  exact fin (by simp at h2;simp[legOk];intros;assumption)
 rename_i h2
 conv=>whnf
 split
 ·rename_i h3
  conv=>whnf
  refine callV_pure (rise_ok fr p.ns) ⟨.free (encW_free _ _),trivial⟩ ?_
  conv=>whnf
  refine fin ?_
  simp at h2
  simp[legOk,h0,h1,h3]
  exact fun _=>h2
 ·rename_i h3
  conv=>whnf
  refine fin ?_
  simp at h2
  simp[legOk,h0,h1,h3]
  exact h2
end
section
open Go.Proofs.Tryz (prog)
attribute [local irreducible] CallV RoundV
theorem indexFunc_ok (fr:Bool) (l:List Leg):∃n:Int,PCon prog 178 [encLegs fr l,.fn (.func 149) [] []] (.int .i64 n)∧(0≤n↔l.all legOk=false):=by
 refine⟨if l.all legOk then -1 else(l.findIdx (!legOk ·):Nat),?_,by split<;>rename_i h<;>simp[h]⟩
 refine callV_of (fn:=Go.Proofs.Tryz.f178) (body:=_) tab_ok mixed rfl rfl (by decide) (by simp[Go.Proofs.Tryz.f178]) ?_
 conv=>whnf
 intro hl
 have hl:l.length≤maxLen:=by simpa[gd]using hl
 conv=>whnf
 refine vcg_loop tab_ok mixed (fun i:{i:Nat // i≤l.length∧(l.take i).all legOk=true}=>⟨[(0,encLegs fr l),(1,.fn (.func 149) [] []),(7,cI l.length),(8,cI i.1)],[],0⟩) (fun i=>l.length - i.1) ⟨0,by omega,rfl⟩ (Wk.of id [] ⟨?_,?_,?_,?_,trivial⟩ (LeH.nil (Nat.le_refl _) (fun b h=>by omega) (by simp))) (fun i=>?_)
 ·exact .free (encLegs_free _ _)
 ·exact .free (.fn (by simp) (by simp))
 ·exact .int_of (by simp)
 ·exact .int_of rfl
 obtain⟨i,hi,hz⟩:=i
 conv=>whnf
 split
 ·rename_i hc
  have hc:i < l.length:=by simpa using hc
  conv=>whnf
  refine⟨rfl,_,⟨by simp only;omega,idxL hc⟩,?_⟩
  conv=>whnf
  refine callV_pure (path1_ok fr l[i]) ⟨.free (.agg (encLeg_free _ _)),trivial⟩ ?_
  conv=>whnf
  split
  ·rename_i h1
   conv=>whnf
   refine Ends.pure [] (.int_of ?_) (by simp)
   have h1:legOk l[i]=false:=by simpa using h1
   have:=all_false (p:=legOk) hc h1
   rw[if_neg (by rw[this];simp)]
   congr 1
   symm
   rw[List.findIdx_eq hc]
   refine⟨by simp[h1],fun j hj=>?_⟩
   rw[List.all_eq_true]at hz
   have:=hz (l[j]'(by omega)) (by rw[List.mem_take_iff_getElem];exact⟨j,by omega,rfl⟩)
   simpa using this
  ·rename_i h1
   conv=>whnf
   refine⟨⟨i + 1,by omega,?_⟩,Wk.of id [] ⟨?_,?_,?_,?_,trivial⟩ (LeH.nil (Nat.le_refl _) (fun b h=>by omega) (by simp)),by simp only;omega⟩
   ·rw[all_take_succ hc,hz];simpa using h1
   ·exact .free (encLegs_free _ _)
   ·exact .free (.fn (by simp) (by simp))
   ·exact .int_of rfl
   ·exact .int_of (wrap64_succ hc hl)
 ·rename_i hc
  have hc:i=l.length:=by simp at hc;omega
  subst hc
  conv=>whnf
  refine Ends.pure [] (.int_of ?_) (by simp)
  rw[List.take_length]at hz
  rw[if_pos hz]
theorem containsFunc_ok (fr:Bool) (l:List Leg):PCon prog 150 [encLegs fr l,.fn (.func 149) [] []] (.bool (!l.all legOk)):=by
 obtain⟨n,hn,hiff⟩:=indexFunc_ok fr l
 refine callV_of (fn:=Go.Proofs.Tryz.f150) (body:=_) tab_ok mixed rfl rfl (by decide) (by simp[Go.Proofs.Tryz.f150]) ?_
 conv=>whnf
 refine callV_pure hn ⟨.free (encLegs_free _ _),.free (.fn (by simp) (by simp)),trivial⟩ ?_
 conv=>whnf
 refine Ends.pure [] (.bool_of ?_) (by simp)
 cases hb:l.all legOk with
 | true=>rw[hb]at hiff;simp at hiff;simp;omega
 | false=>have:=hiff.2 hb;simp;omega
theorem path_ok (fr:Bool) (l:List Leg):PCon prog 106 [encLegs fr l] (.bool (pathOk l)):=by
 refine callV_of (fn:=Go.Proofs.Tryz.f106) (body:=_) tab_ok mixed rfl rfl (by decide) (by simp[Go.Proofs.Tryz.f106]) ?_
 conv=>whnf
 intro hl
 conv=>whnf
 split
 ·rename_i h0
  conv=>whnf
  refine callV_pure (containsFunc_ok fr l) ⟨.free (encLegs_free _ _),.free (.fn (by simp) (by simp)),trivial⟩ ?_
  conv=>whnf
  refine Ends.pure [] (.bool_of ?_) (by simp)
  simp at h0
  simp[pathOk]
  omega
 ·rename_i h0
  conv=>whnf
  refine Ends.pure [] (.bool_of ?_) (by simp)
  simp at h0
  simp[pathOk]
  omega
def rightA (a:Attrs):Bool:=decide ((a.origin.toNat:Int)≤2)&& pathOk a.path && a.next != 0 && (a.hasMed || a.med == 0)&& (a.hasPref || a.pref == 0)&& decide ((a.tags.length:Int)≤16)&& rises a.tags
theorem u32_ne {x:UInt32}:((x.toNat:Int) != 0)=(x != 0):=by
 cases h:x != 0 with
 | true=>simp only[bne_iff_ne,ne_eq]at h ⊢;intro e;exact h (UInt32.toNat_inj.1 (by simp;omega))
 | false=>simp only[bne_eq_false_iff_eq]at h ⊢;subst h;rfl
theorem u32_eq {x:UInt32}:((x.toNat:Int) == 0)=(x == 0):=by
 have:=congrArg (!·) (u32_ne (x:=x))
 simpa[bne]using this
def checkA (a:Attrs):Int:=if rightA a then 0 else 2
theorem checkA_no {a:Attrs} (h:rightA a=false):checkA a=2:=by simp[checkA,h]
theorem checkA_yes {a:Attrs} (h:rightA a=true):checkA a=0:=by simp[checkA,h]
theorem check_ok (fr:Bool) (a:Attrs):PCon prog 60 [encA fr a] (.int .i64 (checkA a)):=by
 refine callV_of (fn:=Go.Proofs.Tryz.f60) (body:=_) tab_ok mixed rfl rfl (by decide) (by simp[Go.Proofs.Tryz.f60]) ?_
 have fin0:∀{s:St},rightA a=true→∃v1 h' nx',Ends 0 s (.int .i64 0) v1 h' nx'∧(v1=.int .i64 (checkA a)∧h'=[]∧nx'=0):=fun h=>Ends.pure [] (.int_of (checkA_yes h).symm) (by simp)
 have fin2:∀{s:St},rightA a=false→∃v1 h' nx',Ends 0 s (.int .i64 2) v1 h' nx'∧(v1=.int .i64 (checkA a)∧h'=[]∧nx'=0):=fun h=>Ends.pure [] (.int_of (checkA_no h).symm) (by simp)
 conv=>whnf
 repeat' first
  | refine fin0 ?_
  | refine fin2 ?_
  | (split<;>(conv=>whnf))
  | (intro _;(conv=>whnf))
  | (refine⟨by kernel_rfl,?_⟩;(conv=>whnf))
  | (refine callV_pure (path_ok fr a.path) ⟨.free (encLegs_free _ _),trivial⟩ ?_;(conv=>whnf))
  | (refine callV_pure (rise_ok fr a.tags) ⟨.free (encW_free _ _),trivial⟩ ?_;(conv=>whnf))
 all_goals (clear fin0 fin2;try simp only[u32_ne,u32_eq]at *)
 all_goals (try simp_all[rightA])
 all_goals (try (intros;exfalso;omega))
end
section
open Go.Proofs.Tryz (prog)
attribute [local irreducible] CallV RoundV
theorem u32_neq {x y:UInt32}:((x.toNat:Int) != (y.toNat:Int))=(x != y):=by
 cases h:x != y with
 | true=>simp only[bne_iff_ne,ne_eq]at h ⊢;intro e;exact h (UInt32.toNat_inj.1 (by omega))
 | false=>simp only[bne_eq_false_iff_eq]at h ⊢;subst h;rfl
theorem u8_neq {x y:UInt8}:((x.toNat:Int) != (y.toNat:Int))=(x != y):=by
 cases h:x != y with
 | true=>simp only[bne_iff_ne,ne_eq]at h ⊢;intro e;exact h (UInt8.toNat_inj.1 (by omega))
 | false=>simp only[bne_eq_false_iff_eq]at h ⊢;subst h;rfl
def sameA (a b:Attrs):Bool:=decide (a=b)
theorem ref_same_ok (fr fr':Bool) (a b:Attrs):PCon prog 16 [encA fr a,encA fr' b] (.bool (sameA a b)):=by
 refine callV_of (fn:=Go.Proofs.Tryz.f16) (body:=_) tab_ok mixed rfl rfl (by decide) (by simp[Go.Proofs.Tryz.f16]) ?_
 have fin:∀{s:St} {r:Bool},sameA a b=r→∃v1 h' nx',Ends 0 s (.bool r) v1 h' nx'∧(v1=.bool (sameA a b)∧h'=[]∧nx'=0):=fun h=>Ends.pure [] (.bool_of h.symm) (by simp)
 conv=>whnf
 repeat' first
  | refine fin ?_
  | (split<;>(conv=>whnf))
  | (refine fun(_:gd none _)=>?_;(conv=>whnf))
  | (refine callV_pure (words_ok fr fr' a.tags b.tags) ⟨.free (encW_free _ _),.free (encW_free _ _),trivial⟩ ?_;(conv=>whnf))
 any_goals (simp only[sameA,decide_eq_false_iff_not];rintro rfl;simp_all;done)
 have hlen:a.path.length=b.path.length:=by
  have:=‹((((a.path.map (encLeg fr)).length:Nat):Int) != (((b.path.map (encLeg fr')).length:Nat):Int))=false›
  simp at this
  omega
 have hall:a.origin=b.origin∧a.next=b.next∧a.hasMed=b.hasMed∧a.med=b.med∧a.hasPref=b.hasPref∧a.pref=b.pref∧a.tags=b.tags:=by
  clear fin
  simp_all[u32_neq,u8_neq]
 have hl:a.path.length≤maxLen:=by
  have:=‹gd none ((a.path.map (encLeg fr)).length≤maxLen)›
  simpa[gd]using this
 have cell:∀{fr0:Bool} {x:Attrs},FreeB (.var true 35 (cellsA fr0 x)):=fun {fr0 x}=>cellsA_free fr0 x
 refine vcg_loop tab_ok mixed (fun i:{i:Nat // i≤a.path.length∧a.path.take i=b.path.take i}=>⟨[(2,.ptr 0 0),(3,.ptr 1 0),(5,cI i.1)],[(0,some (.var true 35 (cellsA fr a))),(1,some (.var true 35 (cellsA fr' b)))],2⟩) (fun i=>a.path.length - i.1) ⟨0,by omega,rfl⟩ (Wk.of id [] ⟨?_,?_,?_,trivial⟩ (LeH.same ⟨⟨rfl,cell,by omega⟩,⟨rfl,cell,by omega⟩,trivial⟩ (by omega))) (fun i=>?_)
 ·exact .ptr rfl (by omega)
 ·exact .ptr rfl (by omega)
 ·exact .int_of rfl
 obtain⟨i,hi,hr⟩:=i
 conv=>whnf
 refine fun(_:gd none _)=>?_
 conv=>whnf
 split
 ·rename_i hc
  have hc:i < a.path.length:=by simpa using hc
  have hc':i < b.path.length:=by omega
  have hdif:a.path[i] ≠ b.path[i]→sameA a b=false:=by
   intro h
   simp only[sameA,decide_eq_false_iff_not]
   rintro rfl
   exact h rfl
  conv=>whnf
  refine⟨rfl,_,⟨by simp only;omega,idxL hc⟩,?_⟩
  conv=>whnf
  refine⟨rfl,_,⟨by simp only;omega,idxL hc'⟩,?_⟩
  conv=>whnf
  split
  ·rename_i h1
   conv=>whnf
   refine⟨by kernel_rfl,?_⟩
   conv=>whnf
   refine fin (hdif fun e=>?_)
   simp[e]at h1
  ·rename_i h1
   conv=>whnf
   refine⟨rfl,_,⟨by simp only;omega,idxL hc⟩,?_⟩
   conv=>whnf
   refine⟨rfl,_,⟨by simp only;omega,idxL hc'⟩,?_⟩
   conv=>whnf
   refine⟨.bool (decide (a.path[i].ns=b.path[i].ns)),[],fun h nx _=>?_,by simp,?_⟩
   ·refine pureV_pure (words_ok fr fr' a.path[i].ns b.path[i].ns) ?_
    exact⟨.free (encW_free _ _),.free (encW_free _ _),trivial⟩
   conv=>whnf
   refine⟨by kernel_rfl,?_⟩
   conv=>whnf
   split
   ·rename_i h2
    conv=>whnf
    refine fin (hdif fun e=>?_)
    simp[e]at h2
   ·rename_i h2
    conv=>whnf
    refine⟨⟨i + 1,by omega,?_⟩,Wk.of id [] ⟨?_,?_,?_,trivial⟩ (LeH.same ⟨⟨rfl,cell,by omega⟩,⟨rfl,cell,by omega⟩,trivial⟩ (by omega)),by simp only;omega⟩
    ·rw[List.take_succ_eq_append_getElem hc,List.take_succ_eq_append_getElem hc',hr]
     have e1:a.path[i].set=b.path[i].set:=by simpa using h1
     have e2:a.path[i].ns=b.path[i].ns:=by simpa using h2
     have:a.path[i]=b.path[i]:=by
      cases ha:a.path[i];cases hb:b.path[i]
      simp_all
     rw[this]
    ·exact .ptr rfl (by omega)
    ·exact .ptr rfl (by omega)
    ·exact .int_of (wrap64_succ hc hl)
 ·rename_i hc
  have hc:i=a.path.length:=by simp at hc;omega
  subst hc
  conv=>whnf
  refine fin ?_
  rw[List.take_length,hlen,List.take_length]at hr
  obtain⟨q1,q2,q3,q4,q5,q6,q7⟩:=hall
  simp only[sameA,decide_eq_true_eq]
  cases a;cases b
  simp_all
end
section
open Go.Proofs.Tryz (prog)
attribute [local irreducible] CallV RoundV
def fewA (a:Attrs):Bool:=a.path.all (fun p=>decide (p.ns.length≤60))&& decide (a.path.length≤20)&& decide (a.tags.length≤60)
def zeroA:List V:=[.int .u8 0,.snil,.int .u32 0,.bool false,.int .u32 0,.bool false,.int .u32 0,.snil]
theorem zeroA_free:∀v∈zeroA,Free v:=by
 intro v hv
 simp[zeroA]at hv
 rcases hv with rfl|rfl|rfl|rfl|rfl|rfl|rfl|rfl<;>first|exact .int|exact .bool|exact .snil
def rowsAt (fr:Bool) (l:List Leg) (i:Nat):List (List V):=(l.take i).map (encLeg true)++ (l.drop i).map (encLeg fr)
theorem rowsAt_free (fr:Bool) (l:List Leg) (i:Nat):∀x∈rowsAt fr l i,∀v∈x,Free v:=by
 intro x hx v hv
 rcases List.mem_append.1 hx with hx|hx
 ·exact rowsLegs_free true _ x hx v hv
 ·exact rowsLegs_free fr _ x hx v hv
theorem rowsAt_get {fr:Bool} {l:List Leg} {i:Nat} (h:i < l.length):(rowsAt fr l i)[i]? = some (encLeg fr l[i]):=by
 unfold rowsAt
 rw[List.getElem?_append_right (by simp;omega)]
 simp[List.length_take,Nat.min_eq_left (Nat.le_of_lt h),h]
theorem rowsAt_succ {fr:Bool} {l:List Leg} {i:Nat} (h:i < l.length):rowsAt fr l (i + 1)=(rowsAt fr l i).set i (encLeg true l[i]):=by
 unfold rowsAt
 rw[List.take_succ_eq_append_getElem h,List.drop_eq_getElem_cons h,List.map_append,List.set_append_right _ _ (by simp;omega)]
 have e:(List.map (encLeg true) (List.take i l)).length=i:=by simp;omega
 rw[e,Nat.sub_self]
 simp only[List.map_cons,List.map_nil,List.set_cons_zero,List.append_assoc,List.cons_append,List.nil_append]
theorem rowsAt_all (fr:Bool) (l:List Leg):rowsAt fr l l.length=l.map (encLeg true):=by simp[rowsAt]
theorem fewA_out {a:Attrs} (h:fewA a=true):(∀p∈a.path,p.ns.length≤60)∧a.path.length≤20∧a.tags.length≤60:=by
 simp only[fewA,Bool.and_eq_true,List.all_eq_true,decide_eq_true_eq]at h
 exact⟨h.1.1,h.1.2,h.2⟩
end
section
open Go.Proofs.Tryz (prog)
attribute [local irreducible] CallV RoundV
def fourB (x:UInt32):List UInt8:=[(x >>> 24).toUInt8,(x >>> 16).toUInt8,(x >>> 8).toUInt8,x.toUInt8]
def highRows (x:UInt32):Nat→List (List V)
 | 0=>[[.int .u8 0],[.int .u8 0],[.int .u8 0],[.int .u8 0]]
 | 1=>[[.int .u8 0],[.int .u8 0],[.int .u8 0],[cB x.toUInt8]]
 | 2=>[[.int .u8 0],[.int .u8 0],[cB (x >>> 8).toUInt8],[cB x.toUInt8]]
 | 3=>[[.int .u8 0],[cB (x >>> 16).toUInt8],[cB (x >>> 8).toUInt8],[cB x.toUInt8]]
 | _=>[[cB (x >>> 24).toUInt8],[cB (x >>> 16).toUInt8],[cB (x >>> 8).toUInt8],[cB x.toUInt8]]
def shr8 (x:UInt32):Nat→Int
 | 0=>x.toNat
 | 1=>(x >>> 8).toNat
 | 2=>(x >>> 16).toNat
 | 3=>(x >>> 24).toNat
 | _=>((0:UInt32).toNat:Int)
theorem highRows_free (x:UInt32) (k:Nat):∀r∈highRows x k,∀v∈r,Free v:=by
 intro r hr v hv
 unfold highRows at hr
 split at hr<;>(simp at hr;rcases hr with rfl|rfl|rfl|rfl<;>(simp at hv;subst hv;exact .int))
theorem LeB.eq_of {h:Heap} {nx nx':Nat} {ρ:Nat→Nat} {Z:List Nat} {b b':Blk} (e:b=b') (hf:FreeB b'):LeB h nx ρ nx' Z b b':=by subst e;exact LeB.free hf
theorem sh_step {x y:UInt32} (h:y.toNat=x.toNat / 256):IntKind.u32.wrap ((IntKind.u64.wrap (x.toNat:Int)).fdiv (2 ^ (min (Int.toNat 8) IntKind.u64.bits)))=(y.toNat:Int):=by
 have h1:IntKind.u64.wrap (x.toNat:Int)=x.toNat:=by
  rw[wrapu64]
  have:=x.toNat_lt
  omega
 rw[h1,wrap32,h]
 have e:(2:Int) ^ (min (Int.toNat 8) IntKind.u64.bits)=256:=by decide
 rw[e,Int.fdiv_eq_ediv_of_nonneg _ (by decide)]
 have:=x.toNat_lt
 omega
theorem high_ok (x:UInt32):PCon prog 187 [cW x,.int .i64 4] (encB true (fourB x)):=by
 refine callV_of (fn:=Go.Proofs.Tryz.f187) (body:=_) tab_ok mixed rfl rfl (by decide) (by simp[Go.Proofs.Tryz.f187]) ?_
 conv=>whnf
 refine⟨⟨by omega,by omega,by simp[tab,tabOf,nth],by omega⟩,?_⟩
 conv=>whnf
 refine callV_of (fn:=Go.Proofs.Tryz.f158) (body:=_) tab_ok mixed rfl rfl (by decide) (by simp[Go.Proofs.Tryz.f158]) ?_
 conv=>whnf
 refine⟨_,_,_,Ends.here,?_⟩
 conv=>whnf
 refine callV_loop [(2,.ptr 0 0),(5,.ptr 2 0)] ⟨rfl,rfl,trivial⟩ fun asg' body' hasg hbody=>?_
 refine callV_of (fn:=Go.Proofs.Tryz.f201) (body:=_) tab_ok mixed rfl rfl (by decide) (by simp[Go.Proofs.Tryz.f201]) ?_
 conv=>whnf
 intro _
 conv=>whnf
 refine vcg_loop tab_ok mixed (fun k:{k:Nat // k≤4}=>⟨[(0,.yld 4),(1,.ptr 3 0),(3,.int .i64 (3 - k.1))],[(4,some (.loop 23 [(2,.ptr 0 0),(5,.ptr 2 0)] [11,12] asg' body' .ready none)),(0,some (.var true 22 [.int .u32 (shr8 x k.1)])),(1,some (.arr true true 5 1 (highRows x k.1))),(2,some (.var true 127 [.osl 1 1 0 4])),(3,some (.var true 127 [.osl 1 1 0 4]))],5⟩) (fun k=>4 - k.1) ⟨0,by omega⟩ ?_ (fun k=>?_)
 ·refine Wk.of id [] ⟨?_,?_,?_,trivial⟩ (LeH.of ⟨⟨by omega,.inl ⟨by simp,_,rfl,?_⟩⟩,⟨by omega,.inl ⟨by simp,_,rfl,?_⟩⟩,⟨by omega,.inl ⟨by simp,_,rfl,?_⟩⟩,⟨by omega,.inl ⟨by simp,_,rfl,?_⟩⟩,⟨by omega,.inl ⟨by simp,_,rfl,?_⟩⟩,trivial⟩ (fun _ _ _ _ h=>h) (fun _ _=>rfl) (by omega) (by simp))
  ·exact .yld rfl (by omega)
  ·exact .ptr rfl (by omega)
  ·exact .int_of rfl
  ·exact⟨rfl,rfl,rfl,rfl,rfl,rfl,.ptr rfl (by omega),.ptr rfl (by omega),trivial⟩
  ·exact⟨id,rfl,.int_of rfl,trivial⟩
  ·exact LeB.free (blk:=.arr true true 5 1 (highRows x 0)) (highRows_free x 0)
  ·exact⟨id,rfl,.osl_of rfl (by omega) rfl,trivial⟩
  ·exact⟨id,rfl,.osl_of rfl (by omega) rfl,trivial⟩
 obtain⟨k,hk⟩:=k
 rcases k with _|_|_|_|_|k
 case succ.succ.succ.succ.succ=>omega
 case succ.succ.succ.succ.zero=>
  conv=>whnf
  refine⟨_,_,_,Ends.here,?_⟩
  conv=>whnf
  refine Ends.pure [1] ?_ ?_
  ·refine LeV.freeze_of (by simp) rfl (by simp[highRows]) (highRows_free x 4) ?_
   simp[highRows,fourB]
  ·intro z hz
   obtain rfl:=List.mem_singleton.1 hz
   exact ne_none_of rfl
 ·conv=>whnf
  refine⟨rfl,⟨by simp,by simp⟩,?_⟩
  conv=>whnf
  refine⟨rfl,_,rfl,?_⟩
  conv=>whnf
  subst hasg hbody
  refine roundV_of tab_ok mixed rfl (by simp) (show 4 < 5 by omega) ?_
  conv=>whnf
  refine⟨rfl,?_⟩
  conv=>whnf
  refine⟨rfl,⟨by simp,by simp⟩,?_⟩
  conv=>whnf
  refine⟨rfl,_,rfl,?_⟩
  conv=>whnf
  refine⟨by decide,?_⟩
  conv=>whnf
  refine⟨rfl,?_⟩
  conv=>whnf
  refine⟨⟨1,by omega⟩,Wk.of id [] ⟨.yld rfl (by omega),.ptr rfl (by omega),.int_of ?_,trivial⟩ (LeH.of ⟨⟨by omega,.inl ⟨by simp,_,rfl,rfl,rfl,rfl,rfl,rfl,rfl,.ptr rfl (by omega),.ptr rfl (by omega),trivial⟩⟩,⟨by omega,.inl ⟨by simp,_,rfl,id,rfl,.int_of ?_,trivial⟩⟩,⟨by omega,.inl ⟨by simp,_,rfl,LeB.eq_of ?_ (highRows_free x 1)⟩⟩,⟨by omega,.inl ⟨by simp,_,rfl,id,rfl,.osl_of rfl (by omega) rfl,trivial⟩⟩,⟨by omega,.inl ⟨by simp,_,rfl,id,rfl,.osl_of rfl (by omega) rfl,trivial⟩⟩,trivial⟩ (fun _ _ _ _ h=>h) (fun _ _=>rfl) (by omega) (by simp)),?_⟩
  ·simp[wrap64']
  ·refine sh_step ?_
   have:=x.toNat_lt
   simp[UInt32.toNat_shiftRight,Nat.shiftRight_eq_div_pow,Nat.div_div_eq_div_mul]<;>omega
  ·simp[highRows,shr8,cB,wrap8]
  ·simp
 ·conv=>whnf
  refine⟨rfl,⟨by simp,by simp⟩,?_⟩
  conv=>whnf
  refine⟨rfl,_,rfl,?_⟩
  conv=>whnf
  subst hasg hbody
  refine roundV_of tab_ok mixed rfl (by simp) (show 4 < 5 by omega) ?_
  conv=>whnf
  refine⟨rfl,?_⟩
  conv=>whnf
  refine⟨rfl,⟨by simp,by simp⟩,?_⟩
  conv=>whnf
  refine⟨rfl,_,rfl,?_⟩
  conv=>whnf
  refine⟨by decide,?_⟩
  conv=>whnf
  refine⟨rfl,?_⟩
  conv=>whnf
  refine⟨⟨2,by omega⟩,Wk.of id [] ⟨.yld rfl (by omega),.ptr rfl (by omega),.int_of ?_,trivial⟩ (LeH.of ⟨⟨by omega,.inl ⟨by simp,_,rfl,rfl,rfl,rfl,rfl,rfl,rfl,.ptr rfl (by omega),.ptr rfl (by omega),trivial⟩⟩,⟨by omega,.inl ⟨by simp,_,rfl,id,rfl,.int_of ?_,trivial⟩⟩,⟨by omega,.inl ⟨by simp,_,rfl,LeB.eq_of ?_ (highRows_free x 2)⟩⟩,⟨by omega,.inl ⟨by simp,_,rfl,id,rfl,.osl_of rfl (by omega) rfl,trivial⟩⟩,⟨by omega,.inl ⟨by simp,_,rfl,id,rfl,.osl_of rfl (by omega) rfl,trivial⟩⟩,trivial⟩ (fun _ _ _ _ h=>h) (fun _ _=>rfl) (by omega) (by simp)),?_⟩
  ·simp[wrap64']
  ·refine sh_step ?_
   have:=x.toNat_lt
   simp[UInt32.toNat_shiftRight,Nat.shiftRight_eq_div_pow,Nat.div_div_eq_div_mul]<;>omega
  ·simp[highRows,shr8,cB,wrap8]
  ·simp
 ·conv=>whnf
  refine⟨rfl,⟨by simp,by simp⟩,?_⟩
  conv=>whnf
  refine⟨rfl,_,rfl,?_⟩
  conv=>whnf
  subst hasg hbody
  refine roundV_of tab_ok mixed rfl (by simp) (show 4 < 5 by omega) ?_
  conv=>whnf
  refine⟨rfl,?_⟩
  conv=>whnf
  refine⟨rfl,⟨by simp,by simp⟩,?_⟩
  conv=>whnf
  refine⟨rfl,_,rfl,?_⟩
  conv=>whnf
  refine⟨by decide,?_⟩
  conv=>whnf
  refine⟨rfl,?_⟩
  conv=>whnf
  refine⟨⟨3,by omega⟩,Wk.of id [] ⟨.yld rfl (by omega),.ptr rfl (by omega),.int_of ?_,trivial⟩ (LeH.of ⟨⟨by omega,.inl ⟨by simp,_,rfl,rfl,rfl,rfl,rfl,rfl,rfl,.ptr rfl (by omega),.ptr rfl (by omega),trivial⟩⟩,⟨by omega,.inl ⟨by simp,_,rfl,id,rfl,.int_of ?_,trivial⟩⟩,⟨by omega,.inl ⟨by simp,_,rfl,LeB.eq_of ?_ (highRows_free x 3)⟩⟩,⟨by omega,.inl ⟨by simp,_,rfl,id,rfl,.osl_of rfl (by omega) rfl,trivial⟩⟩,⟨by omega,.inl ⟨by simp,_,rfl,id,rfl,.osl_of rfl (by omega) rfl,trivial⟩⟩,trivial⟩ (fun _ _ _ _ h=>h) (fun _ _=>rfl) (by omega) (by simp)),?_⟩
  ·simp[wrap64']
  ·refine sh_step ?_
   have:=x.toNat_lt
   simp[UInt32.toNat_shiftRight,Nat.shiftRight_eq_div_pow,Nat.div_div_eq_div_mul]<;>omega
  ·simp[highRows,shr8,cB,wrap8]
  ·simp
 ·conv=>whnf
  refine⟨rfl,⟨by simp,by simp⟩,?_⟩
  conv=>whnf
  refine⟨rfl,_,rfl,?_⟩
  conv=>whnf
  subst hasg hbody
  refine roundV_of tab_ok mixed rfl (by simp) (show 4 < 5 by omega) ?_
  conv=>whnf
  refine⟨rfl,?_⟩
  conv=>whnf
  refine⟨rfl,⟨by simp,by simp⟩,?_⟩
  conv=>whnf
  refine⟨rfl,_,rfl,?_⟩
  conv=>whnf
  refine⟨by decide,?_⟩
  conv=>whnf
  refine⟨rfl,?_⟩
  conv=>whnf
  refine⟨⟨4,by omega⟩,Wk.of id [] ⟨.yld rfl (by omega),.ptr rfl (by omega),.int_of ?_,trivial⟩ (LeH.of ⟨⟨by omega,.inl ⟨by simp,_,rfl,rfl,rfl,rfl,rfl,rfl,rfl,.ptr rfl (by omega),.ptr rfl (by omega),trivial⟩⟩,⟨by omega,.inl ⟨by simp,_,rfl,id,rfl,.int_of ?_,trivial⟩⟩,⟨by omega,.inl ⟨by simp,_,rfl,LeB.eq_of ?_ (highRows_free x 4)⟩⟩,⟨by omega,.inl ⟨by simp,_,rfl,id,rfl,.osl_of rfl (by omega) rfl,trivial⟩⟩,⟨by omega,.inl ⟨by simp,_,rfl,id,rfl,.osl_of rfl (by omega) rfl,trivial⟩⟩,trivial⟩ (fun _ _ _ _ h=>h) (fun _ _=>rfl) (by omega) (by simp)),?_⟩
  ·simp[wrap64']
  ·refine sh_step ?_
   have:=x.toNat_lt
   simp[UInt32.toNat_shiftRight,Nat.shiftRight_eq_div_pow,Nat.div_div_eq_div_mul]<;>omega
  ·simp[highRows,shr8,cB,wrap8]
  ·simp
end
section
open Go.Proofs.Tryz (prog)
attribute [local irreducible] CallV RoundV
abbrev rowsB (b:List UInt8):List (List V):=b.map fun x=>[V.int .u8 x.toNat]
theorem LeV.freezeB {h:Heap} {nx nx':Nat} {ρ:Nat→Nat} {Z:List Nat} {b n:Nat} {fr ex:Bool} {ty:TypeId} {rows:List (List V)} {bs:List UInt8} (hz:b∈Z) (hb:hget h b=some (.arr fr ex ty 1 rows)) (e:rows=rowsB bs) (hn:n=bs.length) :
  LeV h nx ρ nx' Z (.osl b 1 0 n) (encB fr bs):=by
 subst e
 exact LeV.freeze_of hz hb (by simp[hn]) (rowsB_free _) (by simp only[List.drop_zero];exact List.take_of_length_le (by simp[hn]))
theorem one_none {h:Heap} {b:Nat} {x:Blk} (hb:hget h b=some x):∀z∈[b],hget h z ≠ none:=fun z hz=>by
 obtain rfl:=List.mem_singleton.1 hz
 exact ne_none_of hb
theorem u8_nat (n:Nat):IntKind.u8.wrap (n:Int)=(UInt8.ofNat n).toNat:=by
 rw[wrap8];simp
def allB (l:List UInt32):List UInt8:=l.flatMap fourB
theorem allB_len (l:List UInt32):(allB l).length=4 * l.length:=by
 induction l with
 | nil=>rfl
 | cons x l ih=>
  have e:allB (x :: l)=fourB x ++ allB l:=by unfold allB;rw[List.flatMap_cons]
  have e4:(fourB x).length=4:=rfl
  rw[e,List.length_append,e4,ih,List.length_cons]
  omega
theorem allB_succ {l:List UInt32} {i:Nat} (h:i < l.length):allB (l.take (i + 1))=allB (l.take i)++ fourB l[i]:=by
 unfold allB
 rw[List.take_succ_eq_append_getElem h,List.flatMap_append,List.flatMap_cons,List.flatMap_nil,List.append_nil]
theorem all_ok (fr:Bool) (l:List UInt32) (hb:l.length≤1000):PCon prog 198 [encW fr l] (encB true (allB l)):=by
 refine callV_of (fn:=Go.Proofs.Tryz.f198) (body:=_) tab_ok mixed rfl rfl (by decide) (by simp[Go.Proofs.Tryz.f198]) ?_
 conv=>whnf
 intro _
 conv=>whnf
 refine vcg_loop tab_ok mixed (fun i:{i:Nat // i≤l.length}=>⟨[(2,.osl 0 1 0 (4 * i.1)),(5,encW fr l),(6,cI l.length),(7,cI i.1)],[(0,some (.arr true false 5 1 (rowsB (allB (l.take i.1)))))],1⟩) (fun i=>l.length - i.1) ⟨0,by omega⟩ ?_ (fun i=>?_)
 ·refine Wk.of id [] ⟨?_,?_,?_,?_,trivial⟩ (LeH.of ⟨⟨by omega,.inr ⟨by simp,_,_,_,_,rfl⟩⟩,trivial⟩ (fun _ _ _ _ h=>h) (fun _ _=>rfl) (by omega) (by simp))
  ·exact .osl0
  ·exact .free (encW_free _ _)
  ·exact .int_of (by simp)
  ·exact .int_of rfl
 obtain⟨i,hi⟩:=i
 conv=>whnf
 split
 ·rename_i hc
  have hc:i < l.length:=by simpa using hc
  conv=>whnf
  refine⟨rfl,_,⟨by simp only;omega,idxW hc⟩,?_⟩
  conv=>whnf
  refine callV_pure (high_ok l[i]) ⟨.free .int,.free .int,trivial⟩ ?_
  conv=>whnf
  have hlen:=allB_len (l.take i)
  rw[List.length_take,Nat.min_eq_left hi]at hlen
  refine⟨⟨rfl,rfl,rfl,rfl,by decide⟩,by simp[rowsB,hlen],⟨by simp[tab,tabOf,nth,fourB];omega,by simp[fourB];omega⟩,?_⟩
  conv=>whnf
  refine⟨⟨i + 1,by omega⟩,Wk.of (renOf [(0,1)]) [] ⟨?_,?_,?_,?_,trivial⟩ (LeH.of ⟨⟨by omega,.inl ⟨by simp,_,rfl,LeB.eq_of ?_ ?_⟩⟩,trivial⟩ (by simp) (fun b hb=>by omega) (by omega) (by simp)),by simp only;omega⟩
  ·exact .osl_of rfl (by omega) (by simp[fourB];omega)
  ·exact .free (encW_free _ _)
  ·exact .int_of rfl
  ·exact .int_of (wrap64_succ hc (show l.length≤maxLen by unfold maxLen;omega))
  ·simp only
   rw[allB_succ hc,List.take_of_length_le (by simp[rowsB,hlen])]
   simp[rowsB]
  ·exact rowsB_free _
 ·rename_i hc
  have hc:i=l.length:=by simp at hc;omega
  subst hc
  conv=>whnf
  refine Ends.pure [0] ?_ ?_
  ·refine LeV.freeze_of (by simp) rfl ?_ (rowsB_free _) ?_
   ·simp[rowsB,allB_len]
   ·simp only[List.take_length,List.drop_zero]
    exact List.take_of_length_le (by simp[rowsB,allB_len])
  ·intro z hz
   obtain rfl:=List.mem_singleton.1 hz
   exact ne_none_of rfl
end
section
open Go.Proofs.Tryz (prog)
attribute [local irreducible] CallV RoundV
def attrB (f c:UInt8) (v:List UInt8):List UInt8:=
 if 255 < v.length then [f + 16,c,UInt8.ofNat (v.length / 256),UInt8.ofNat (v.length % 256)]++ v else [f,c,UInt8.ofNat v.length]++ v
end
section
open Go.Proofs.Tryz (prog)
attribute [local irreducible] CallV RoundV
def kindB (p:Leg):UInt8:=if p.set then 1 else 2
def legB (p:Leg):List UInt8:=[kindB p,UInt8.ofNat p.ns.length]++ allB p.ns
def pathB (l:List Leg):List UInt8:=l.flatMap legB
theorem pathB_succ {l:List Leg} {i:Nat} (h:i < l.length):pathB (l.take (i + 1))=pathB (l.take i)++ legB l[i]:=by
 unfold pathB
 rw[List.take_succ_eq_append_getElem h,List.flatMap_append,List.flatMap_cons,List.flatMap_nil,List.append_nil]
theorem legB_len (p:Leg):(legB p).length=2 + 4 * p.ns.length:=by simp[legB,allB_len];omega
theorem pathB_len {l:List Leg} (h:∀p∈l,p.ns.length≤60):(pathB l).length≤242 * l.length:=by
 induction l with
 | nil=>simp[pathB]
 | cons p l ih=>
  have e:pathB (p :: l)=legB p ++ pathB l:=by unfold pathB;rw[List.flatMap_cons]
  have:=ih (fun q hq=>h q (by simp[hq]))
  have:=h p (by simp)
  rw[e,List.length_append,legB_len,List.length_cons]
  omega
def rawO (a:Attrs):List UInt8:=attrB 64 1 [a.origin]++ attrB 64 2 (pathB a.path)++ attrB 64 3 (fourB a.next)++ (if a.hasMed then attrB 128 4 (fourB a.med)else [])++ (if a.hasPref then attrB 64 5 (fourB a.pref)else [])
def rawA (a:Attrs):List UInt8:=rawO a ++ (if 0 < a.tags.length then attrB 192 8 (allB a.tags)else [])
end
section
open Go.Proofs.Tryz (prog)
attribute [local irreducible] CallV RoundV
theorem route_ok (fr:Bool) (a:Attrs) (hf:fewA a=true):PCon prog 184 [encA fr a] (encB true (pathB a.path)):=by
 obtain⟨hp,hpl,htl⟩:=fewA_out hf
 have cell:∀{fr0:Bool} {x:Attrs},FreeB (.var true 35 (cellsA fr0 x)):=fun {fr0 x}=>cellsA_free fr0 x
 refine callV_of (fn:=Go.Proofs.Tryz.f184) (body:=_) tab_ok mixed rfl rfl (by decide) (by simp[Go.Proofs.Tryz.f184]) ?_
 conv=>whnf
 intro hl
 have hl:a.path.length≤maxLen:=by simpa[gd]using hl
 conv=>whnf
 refine vcg_loop tab_ok mixed (fun i:{i:Nat // i≤a.path.length}=>⟨[(2,.osl 1 1 0 (pathB (a.path.take i.1)).length),(7,encLegs fr a.path),(8,cI a.path.length),(9,cI i.1)],[(1,some (.arr true false 5 1 (rowsB (pathB (a.path.take i.1)))))],2⟩) (fun i=>a.path.length - i.1) ⟨0,by omega⟩ ?_ (fun i=>?_)
 ·refine Wk.of id [] ⟨?_,?_,?_,?_,trivial⟩ (LeH.of ⟨⟨by omega,.inr ⟨by simp,_,_,_,_,rfl⟩⟩,trivial⟩ (fun _ _ _ _ h=>h) (fun _ _=>rfl) (by omega) (by simp))
  ·exact .osl0
  ·exact .free (encLegs_free _ _)
  ·exact .int_of (by simp)
  ·exact .int_of rfl
 obtain⟨i,hi⟩:=i
 conv=>whnf
 split
 ·rename_i hc
  have hc:i < a.path.length:=by simpa using hc
  have hpi:=hp a.path[i] (List.getElem_mem hc)
  have hpb:(pathB (a.path.take i)).length≤242 * i:=by
   have:=pathB_len (l:=a.path.take i) (fun p hp'=>hp p (List.mem_of_mem_take hp'))
   rw[List.length_take,Nat.min_eq_left hi]at this
   exact this
  conv=>whnf
  refine ixK (idxL hc) ?_
  conv=>whnf
  split
  case' h_1=>rename_i hk;have hkind:kindB a.path[i]=1:=by simp[kindB,hk]
  case' h_2=>rename_i hk;have hkind:kindB a.path[i]=2:=by simp[kindB,hk]
  all_goals
   conv=>whnf
   refine⟨rfl,by simp,⟨rfl,rfl,rfl,rfl,by decide⟩,by simp,⟨by simp[tab,tabOf,nth];omega,by simp;omega⟩,?_⟩
   conv=>whnf
   refine⟨encB true (allB a.path[i].ns),[],fun h nx _=>?_,by simp,?_⟩
   ·refine pureV_pure (all_ok fr a.path[i].ns (by omega)) ?_
    exact⟨.free (encW_free _ _),trivial⟩
   conv=>whnf
   refine⟨⟨rfl,rfl,rfl,rfl,by decide⟩,by simp,⟨by simp[tab,tabOf,nth,allB_len];omega,by simp[allB_len];omega⟩,?_⟩
   conv=>whnf
   refine⟨by kernel_rfl,?_⟩
   conv=>whnf
   refine⟨⟨i + 1,by omega⟩,Wk.of (renOf [(1,5)]) [] ⟨?_,?_,?_,?_,trivial⟩ (LeH.of ⟨⟨by omega,.inl ⟨by simp,_,rfl,LeB.eq_of ?_ (rowsB_free _)⟩⟩,trivial⟩ (show ∀b∈[1],∀b'∈[1],renOf [(1,5)] b=renOf [(1,5)] b'→b=b' by decide) (fun b hb=>by omega) (by omega) (by simp)),by simp only;omega⟩
   ·exact .osl_of rfl (by omega) (by simp only;rw[pathB_succ hc,List.length_append,legB_len];simp[allB_len];omega)
   ·exact .free (encLegs_free _ _)
   ·exact .int_of rfl
   ·exact .int_of (wrap64_succ hc hl)
   ·simp only[List.length_map,u8_nat]
    rw[pathB_succ hc]
    simp[rowsB,legB,hkind,List.take_of_length_le]
 ·rename_i hc
  have hc:i=a.path.length:=by simp at hc;omega
  subst hc
  conv=>whnf
  refine Ends.pure [1] (.freezeB (bs:=pathB a.path) (by simp) rfl (by simp) (by simp)) (one_none rfl)
theorem always_ok (fr:Bool) (a:Attrs):PCon prog 181 [encA fr a] (.bool true):=by
 refine callV_of (fn:=Go.Proofs.Tryz.f181) (body:=_) tab_ok mixed rfl rfl (by decide) (by simp[Go.Proofs.Tryz.f181]) ?_
 conv=>whnf
 exact Ends.pure [] (.bool_of rfl) (by simp)
theorem hasMed_ok (fr:Bool) (a:Attrs):PCon prog 190 [encA fr a] (.bool a.hasMed):=by
 refine callV_of (fn:=Go.Proofs.Tryz.f190) (body:=_) tab_ok mixed rfl rfl (by decide) (by simp[Go.Proofs.Tryz.f190]) ?_
 conv=>whnf
 exact Ends.pure [] (.bool_of rfl) (by simp)
theorem hasPref_ok (fr:Bool) (a:Attrs):PCon prog 193 [encA fr a] (.bool a.hasPref):=by
 refine callV_of (fn:=Go.Proofs.Tryz.f193) (body:=_) tab_ok mixed rfl rfl (by decide) (by simp[Go.Proofs.Tryz.f193]) ?_
 conv=>whnf
 exact Ends.pure [] (.bool_of rfl) (by simp)
theorem hasTags_ok (fr:Bool) (a:Attrs):PCon prog 196 [encA fr a] (.bool (decide (0 < a.tags.length))):=by
 refine callV_of (fn:=Go.Proofs.Tryz.f196) (body:=_) tab_ok mixed rfl rfl (by decide) (by simp[Go.Proofs.Tryz.f196]) ?_
 conv=>whnf
 intro _
 conv=>whnf
 exact Ends.pure [] (.bool_of (by simp)) (by simp)
theorem vOrigin_ok (fr:Bool) (a:Attrs):PCon prog 182 [encA fr a] (encB true [a.origin]):=by
 refine callV_of (fn:=Go.Proofs.Tryz.f182) (body:=_) tab_ok mixed rfl rfl (by decide) (by simp[Go.Proofs.Tryz.f182]) ?_
 conv=>whnf
 exact Ends.pure [1] (.freezeB (bs:=[a.origin]) (by simp) rfl rfl rfl) (one_none rfl)
theorem vNext_ok (fr:Bool) (a:Attrs):PCon prog 186 [encA fr a] (encB true (fourB a.next)):=by
 refine callV_of (fn:=Go.Proofs.Tryz.f186) (body:=_) tab_ok mixed rfl rfl (by decide) (by simp[Go.Proofs.Tryz.f186]) ?_
 conv=>whnf
 refine callV_pure (high_ok _) ⟨.free .int,.free .int,trivial⟩ ?_
 conv=>whnf
 exact Ends.pure [] (.free (encB_free _ _)) (by simp)
theorem vMed_ok (fr:Bool) (a:Attrs):PCon prog 191 [encA fr a] (encB true (fourB a.med)):=by
 refine callV_of (fn:=Go.Proofs.Tryz.f191) (body:=_) tab_ok mixed rfl rfl (by decide) (by simp[Go.Proofs.Tryz.f191]) ?_
 conv=>whnf
 refine callV_pure (high_ok _) ⟨.free .int,.free .int,trivial⟩ ?_
 conv=>whnf
 exact Ends.pure [] (.free (encB_free _ _)) (by simp)
theorem vPref_ok (fr:Bool) (a:Attrs):PCon prog 194 [encA fr a] (encB true (fourB a.pref)):=by
 refine callV_of (fn:=Go.Proofs.Tryz.f194) (body:=_) tab_ok mixed rfl rfl (by decide) (by simp[Go.Proofs.Tryz.f194]) ?_
 conv=>whnf
 refine callV_pure (high_ok _) ⟨.free .int,.free .int,trivial⟩ ?_
 conv=>whnf
 exact Ends.pure [] (.free (encB_free _ _)) (by simp)
theorem vTags_ok (fr:Bool) (a:Attrs) (hf:fewA a=true):PCon prog 197 [encA fr a] (encB true (allB a.tags)):=by
 obtain⟨_,_,htl⟩:=fewA_out hf
 refine callV_of (fn:=Go.Proofs.Tryz.f197) (body:=_) tab_ok mixed rfl rfl (by decide) (by simp[Go.Proofs.Tryz.f197]) ?_
 conv=>whnf
 refine callV_pure (all_ok _ _ (by omega)) ⟨.free (encW_free _ _),trivial⟩ ?_
 conv=>whnf
 exact Ends.pure [] (.free (encB_free _ _)) (by simp)
end
section
open Go.Proofs.Tryz (prog)
attribute [local irreducible] CallV RoundV
theorem LeV.fnL {h:Heap} {nx nx':Nat} {ρ:Nat→Nat} {Z:List Nat} {f:Fn} {fs fs' cs cs':List V} (h1:LeL h nx ρ nx' Z fs fs') (h2:LeL h nx ρ nx' Z cs cs'):LeV h nx ρ nx' Z (.fn f fs cs) (.fn f fs' cs'):=fun G w u hr hv=>by
 cases hv with
 | fn _ _ _ us ws q1 q2 q3 q4=>
  have v1:=h1.vrs hr (us:=us) ⟨q1,q3⟩
  have v2:=h2.vrs hr (us:=ws) ⟨q2,q4⟩
  exact .fn _ _ _ us ws v1.1 v2.1 v1.2 v2.2
theorem LeV.freezePL {h:Heap} {nx nx':Nat} {ρ:Nat→Nat} {Z:List Nat} {b:Nat} {fr:Bool} {ty:TypeId} {cells cells':List V} (hz:b∈Z) (hb:hget h b=some (.var fr ty cells)) (hl:LeL h nx ρ nx' Z cells cells') :
  LeV h nx ρ nx' Z (.ptr b 0) (.iptr fr cells'):=fun G w u hr hv=>by
 have hown:Holds G w b fr true ty cells:=hr.own b _ hb
 obtain⟨c',cs,e1,hh,hle,hex,hfr,hcell,_⟩:=hown
 obtain⟨l1,l2⟩:=hl.out
 cases hv with
 | ptr _ _ c hc=>
  rw[hc]at e1
  obtain rfl:c=c':=Option.some.inj e1
  have at':∀(j:Nat) (v':V),cells'[j]? = some v'→∃v u,cells[j]? = some v∧cs[j]? = some u∧u.oneCell'=true∧vr G w v u:=by
   intro j v' hj
   have hlt:j < cells.length:=by rw[l1];exact(List.getElem?_eq_some_iff.1 hj).1
   obtain⟨u,hu,h1,hv⟩:=hcell j _ (List.getElem?_eq_getElem hlt)
   exact⟨_,u,List.getElem?_eq_getElem hlt,hu,h1,hv⟩
  refine .iptr fr cells' ⟨c,0,none⟩ (fun j=>cs[j]?.getD undef) rfl (fun j v' hj=>?_) (fun j v' hj=>?_)
  ·obtain⟨v,u,_,hu,h1,_⟩:=at' j v' hj
   exact⟨by simp[rd,World.cell?,hh,hu],.inr ⟨b,hz,hc⟩,fun hf=>⟨hfr hf,by simp[World.frozen?,hh]⟩,by simp[hu,h1]⟩
  ·obtain⟨v,u,hv,hu,h1,hvr⟩:=at' j v' hj
   simp only[hu,Option.getD_some]
   exact l2 j v v' hv hj G w u hr hvr
abbrev fnV (n:Nat):V:=.fn (.func n) [] []
def fourV (n:Nat):V:=.fn (.func 232) [] [.iptr true [fnV n]]
theorem four_ok (n:Nat):PCon prog 188 [fnV n] (fourV n):=by
 refine callV_of (fn:=Go.Proofs.Tryz.f188) (body:=_) tab_ok mixed rfl rfl (by decide) (by simp[Go.Proofs.Tryz.f188]) ?_
 conv=>whnf
 refine Ends.pure [0] (.fnL trivial ⟨.freezePL (by simp) rfl ⟨.free (.fn (by simp) (by simp)),trivial⟩,trivial⟩) (one_none rfl)
theorem fourV_free (n:Nat):Free (fourV n):=.fn (by simp) (by
 intro v hv
 simp at hv;subst hv
 refine .iptr ?_
 intro v hv
 simp at hv;subst hv
 exact .fn (by simp) (by simp))
def attrRows:List (List V):=[
 [.int .u8 1,.int .u8 64,fnV 181,fnV 182,fnV 183],
 [.int .u8 2,.int .u8 64,fnV 181,fnV 184,fnV 185],
 [.int .u8 3,.int .u8 64,fnV 181,fnV 186,fourV 189],
 [.int .u8 4,.int .u8 128,fnV 190,fnV 191,fourV 192],
 [.int .u8 5,.int .u8 64,fnV 193,fnV 194,fourV 195],
 [.int .u8 8,.int .u8 192,fnV 196,fnV 197,fnV 199]]
theorem fnV_free (n:Nat):Free (fnV n):=.fn (by simp) (by simp)
theorem attrRows_free:∀x∈attrRows,∀v∈x,Free v:=by
 intro x hx v hv
 simp only[attrRows,List.mem_cons,List.not_mem_nil,or_false]at hx
 rcases hx with rfl|rfl|rfl|rfl|rfl|rfl <;>
  (simp only[List.mem_cons,List.not_mem_nil,or_false]at hv;rcases hv with rfl|rfl|rfl|rfl|rfl<;>first|exact .int|exact fnV_free _|exact fourV_free _)
def attributesV:V:=.fn (.func 231) [] [.iptr true [.sl true 5 attrRows]]
theorem attributes_ok:PCon prog 155 [] attributesV:=by
 refine callV_of (fn:=Go.Proofs.Tryz.f155) (body:=_) tab_ok mixed rfl rfl (by decide) (by simp[Go.Proofs.Tryz.f155]) ?_
 conv=>whnf
 refine callV_pure (four_ok _) ⟨.free (fnV_free _),trivial⟩ ?_
 conv=>whnf
 refine callV_pure (four_ok _) ⟨.free (fnV_free _),trivial⟩ ?_
 conv=>whnf
 refine callV_pure (four_ok _) ⟨.free (fnV_free _),trivial⟩ ?_
 conv=>whnf
 refine callV_of (fn:=Go.Proofs.Tryz.f180) (body:=_) tab_ok mixed rfl rfl (by decide) (by simp[Go.Proofs.Tryz.f180]) ?_
 conv=>whnf
 refine⟨_,_,_,Ends.here,?_⟩
 conv=>whnf
 refine Ends.pure [0,1] (.fnL trivial ⟨.freezePL (by simp) rfl ⟨LeV.freeze_of (by simp) rfl (by simp) attrRows_free rfl,trivial⟩,trivial⟩) ?_
 intro z hz
 rcases List.mem_cons.1 hz with rfl|hz
 ·exact ne_none_of rfl
 ·exact one_none rfl z hz
end
section
open Go.Proofs.Tryz (prog)
attribute [local irreducible] CallV RoundV
def twoB (n:Nat):List UInt8:=[UInt8.ofNat (n / 256),UInt8.ofNat n]
def twoRows (n:Nat):Nat→List (List V)
 | 0=>[[.int .u8 0],[.int .u8 0]]
 | 1=>[[.int .u8 0],[cB (UInt8.ofNat n)]]
 | _=>[[cB (UInt8.ofNat (n / 256))],[cB (UInt8.ofNat n)]]
def shrI (n:Nat):Nat→Int
 | 0=>n
 | 1=>(n / 256:Nat)
 | _=>(n / 65536:Nat)
theorem twoRows_free (n:Nat) (k:Nat):∀r∈twoRows n k,∀v∈r,Free v:=by
 intro r hr v hv
 unfold twoRows at hr
 split at hr<;>(simp at hr;rcases hr with rfl|rfl<;>(simp at hv;subst hv;exact .int))
theorem shI_step (n:Nat) {m:Nat} (h:m=n / 256) (hn:n < 65536):IntKind.i64.wrap ((IntKind.u64.wrap (n:Int)).fdiv (2 ^ (min (Int.toNat 8) IntKind.u64.bits)))=(m:Int):=by
 have h1:IntKind.u64.wrap (n:Int)=n:=by rw[wrapu64];omega
 have e:(2:Int) ^ (min (Int.toNat 8) IntKind.u64.bits)=256:=by decide
 rw[h1,e,h,Int.fdiv_eq_ediv_of_nonneg _ (by decide),wrap64 (by omega) (by omega)]
 omega
theorem highI_ok (n:Nat) (hn:n < 65536):PCon prog 156 [cI n,.int .i64 2] (encB true (twoB n)):=by
 refine callV_of (fn:=Go.Proofs.Tryz.f156) (body:=_) tab_ok mixed rfl rfl (by decide) (by simp[Go.Proofs.Tryz.f156]) ?_
 conv=>whnf
 refine⟨⟨by omega,by omega,by simp[tab,tabOf,nth],by omega⟩,?_⟩
 conv=>whnf
 refine callV_of (fn:=Go.Proofs.Tryz.f158) (body:=_) tab_ok mixed rfl rfl (by decide) (by simp[Go.Proofs.Tryz.f158]) ?_
 conv=>whnf
 refine⟨_,_,_,Ends.here,?_⟩
 conv=>whnf
 refine callV_loop [(2,.ptr 0 0),(5,.ptr 2 0)] ⟨rfl,rfl,trivial⟩ fun asg' body' hasg hbody=>?_
 refine callV_of (fn:=Go.Proofs.Tryz.f201) (body:=_) tab_ok mixed rfl rfl (by decide) (by simp[Go.Proofs.Tryz.f201]) ?_
 conv=>whnf
 intro _
 conv=>whnf
 refine vcg_loop tab_ok mixed (fun k:{k:Nat // k≤2}=>⟨[(0,.yld 4),(1,.ptr 3 0),(3,.int .i64 (1 - k.1))],[(4,some (.loop 23 [(2,.ptr 0 0),(5,.ptr 2 0)] [11,12] asg' body' .ready none)),(0,some (.var true 3 [.int .i64 (shrI n k.1)])),(1,some (.arr true true 5 1 (twoRows n k.1))),(2,some (.var true 127 [.osl 1 1 0 2])),(3,some (.var true 127 [.osl 1 1 0 2]))],5⟩) (fun k=>2 - k.1) ⟨0,by omega⟩ ?_ (fun k=>?_)
 ·refine Wk.of id [] ⟨?_,?_,?_,trivial⟩ (LeH.of ⟨⟨by omega,.inl ⟨by simp,_,rfl,?_⟩⟩,⟨by omega,.inl ⟨by simp,_,rfl,?_⟩⟩,⟨by omega,.inl ⟨by simp,_,rfl,?_⟩⟩,⟨by omega,.inl ⟨by simp,_,rfl,?_⟩⟩,⟨by omega,.inl ⟨by simp,_,rfl,?_⟩⟩,trivial⟩ (fun _ _ _ _ h=>h) (fun _ _=>rfl) (by omega) (by simp))
  ·exact .yld rfl (by omega)
  ·exact .ptr rfl (by omega)
  ·exact .int_of rfl
  ·exact⟨rfl,rfl,rfl,rfl,rfl,rfl,.ptr rfl (by omega),.ptr rfl (by omega),trivial⟩
  ·exact⟨id,rfl,.int_of rfl,trivial⟩
  ·exact LeB.free (blk:=.arr true true 5 1 (twoRows n 0)) (twoRows_free n 0)
  ·exact⟨id,rfl,.osl_of rfl (by omega) rfl,trivial⟩
  ·exact⟨id,rfl,.osl_of rfl (by omega) rfl,trivial⟩
 obtain⟨k,hk⟩:=k
 rcases k with _|_|_|k
 case succ.succ.succ=>omega
 case succ.succ.zero=>
  conv=>whnf
  refine⟨_,_,_,Ends.here,?_⟩
  conv=>whnf
  refine Ends.pure [1] ?_ ?_
  ·refine LeV.freeze_of (by simp) rfl (by simp[twoRows]) (twoRows_free n 2) ?_
   simp[twoRows,twoB]
  ·intro z hz
   obtain rfl:=List.mem_singleton.1 hz
   exact ne_none_of rfl
 ·conv=>whnf
  refine⟨rfl,⟨by simp,by simp⟩,?_⟩
  conv=>whnf
  refine⟨rfl,_,rfl,?_⟩
  conv=>whnf
  subst hasg hbody
  refine roundV_of tab_ok mixed rfl (by simp) (show 4 < 5 by omega) ?_
  conv=>whnf
  refine⟨rfl,?_⟩
  conv=>whnf
  refine⟨rfl,⟨by simp,by simp⟩,?_⟩
  conv=>whnf
  refine⟨rfl,_,rfl,?_⟩
  conv=>whnf
  refine⟨by decide,?_⟩
  conv=>whnf
  refine⟨rfl,?_⟩
  conv=>whnf
  refine⟨⟨1,by omega⟩,Wk.of id [] ⟨.yld rfl (by omega),.ptr rfl (by omega),.int_of ?_,trivial⟩ (LeH.of ⟨⟨by omega,.inl ⟨by simp,_,rfl,rfl,rfl,rfl,rfl,rfl,rfl,.ptr rfl (by omega),.ptr rfl (by omega),trivial⟩⟩,⟨by omega,.inl ⟨by simp,_,rfl,id,rfl,.int_of ?_,trivial⟩⟩,⟨by omega,.inl ⟨by simp,_,rfl,LeB.eq_of ?_ (twoRows_free n 1)⟩⟩,⟨by omega,.inl ⟨by simp,_,rfl,id,rfl,.osl_of rfl (by omega) rfl,trivial⟩⟩,⟨by omega,.inl ⟨by simp,_,rfl,id,rfl,.osl_of rfl (by omega) rfl,trivial⟩⟩,trivial⟩ (fun _ _ _ _ h=>h) (fun _ _=>rfl) (by omega) (by simp)),?_⟩
  ·simp[wrap64']
  ·exact shI_step _ (by simp[Nat.div_div_eq_div_mul]) (by omega)
  ·simp[twoRows,shrI,cB,wrap8]
  ·simp
 ·conv=>whnf
  refine⟨rfl,⟨by simp,by simp⟩,?_⟩
  conv=>whnf
  refine⟨rfl,_,rfl,?_⟩
  conv=>whnf
  subst hasg hbody
  refine roundV_of tab_ok mixed rfl (by simp) (show 4 < 5 by omega) ?_
  conv=>whnf
  refine⟨rfl,?_⟩
  conv=>whnf
  refine⟨rfl,⟨by simp,by simp⟩,?_⟩
  conv=>whnf
  refine⟨rfl,_,rfl,?_⟩
  conv=>whnf
  refine⟨by decide,?_⟩
  conv=>whnf
  refine⟨rfl,?_⟩
  conv=>whnf
  refine⟨⟨2,by omega⟩,Wk.of id [] ⟨.yld rfl (by omega),.ptr rfl (by omega),.int_of ?_,trivial⟩ (LeH.of ⟨⟨by omega,.inl ⟨by simp,_,rfl,rfl,rfl,rfl,rfl,rfl,rfl,.ptr rfl (by omega),.ptr rfl (by omega),trivial⟩⟩,⟨by omega,.inl ⟨by simp,_,rfl,id,rfl,.int_of ?_,trivial⟩⟩,⟨by omega,.inl ⟨by simp,_,rfl,LeB.eq_of ?_ (twoRows_free n 2)⟩⟩,⟨by omega,.inl ⟨by simp,_,rfl,id,rfl,.osl_of rfl (by omega) rfl,trivial⟩⟩,⟨by omega,.inl ⟨by simp,_,rfl,id,rfl,.osl_of rfl (by omega) rfl,trivial⟩⟩,trivial⟩ (fun _ _ _ _ h=>h) (fun _ _=>rfl) (by omega) (by simp)),?_⟩
  ·simp[wrap64']
  ·exact shI_step _ (by simp[Nat.div_div_eq_div_mul]) (by omega)
  ·simp[twoRows,shrI,cB,wrap8]
  ·simp
end
section
open Go.Proofs.Tryz (prog)
attribute [local irreducible] CallV RoundV
theorem LeV.snil_sl {h:Heap} {nx nx':Nat} {ρ:Nat→Nat} {Z:List Nat} {fr:Bool} {sz:Nat}:LeV h nx ρ nx' Z .snil (.sl fr sz []):=fun G w u hr hv=>by
 cases hv with
 | snil A=>exact .sl fr sz [] A 0 (fun _=>undef) (Nat.le_refl _) (Nat.zero_le _) (fun h=>absurd rfl h) (by simp) (by simp) (by simp)
def attrX (f c:UInt8) (v:List UInt8):List UInt8:=(if 255 < v.length then [f + 16,c]++ twoB v.length else [f,c,UInt8.ofNat v.length])++ v
def part (a:Attrs):Nat→List UInt8
 | 0=>attrX 64 1 [a.origin]
 | 1=>attrX 64 2 (pathB a.path)
 | 2=>attrX 64 3 (fourB a.next)
 | 3=>if a.hasMed then attrX 128 4 (fourB a.med)else []
 | 4=>if a.hasPref then attrX 64 5 (fourB a.pref)else []
 | _=>if 0 < a.tags.length then attrX 192 8 (allB a.tags)else []
def rawP (a:Attrs):Nat→List UInt8
 | 0=>[]
 | k + 1=>rawP a k ++ part a k
def rawE (a:Attrs):V:=.tup [encB true (if rightA a then rawP a 6 else []),.int .i64 (checkA a)]
theorem rawE_no {a:Attrs} (h:rightA a=false):rawE a=.tup [encB true [],.int .i64 2]:=by simp[rawE,h,checkA]
theorem rawE_yes {a:Attrs} (h:rightA a=true):rawE a=.tup [encB true (rawP a 6),.int .i64 0]:=by simp[rawE,h,checkA]
theorem raw_ok (fr:Bool) (a:Attrs) (hf:fewA a=true):PCon prog 114 [encA fr a] (rawE a):=by
 obtain⟨hp,hpl,htl⟩:=fewA_out hf
 have cell:∀{fr0:Bool} {x:Attrs},FreeB (.var true 35 (cellsA fr0 x)):=fun {fr0 x}=>cellsA_free fr0 x
 have f4:∀x,(fourB x).length=4:=fun _=>rfl
 have hbd:∀n:Nat,n≤20000→n * (tab 5).bytes≤140737488355328∧n≤140737488355328:=fun n h=>⟨by simp[tab,tabOf,nth];omega,by omega⟩
 have hpb:=pathB_len hp
 have ax:∀{f c:UInt8} {v:List UInt8},(attrX f c v).length≤4 + v.length:=fun {f c v}=>by unfold attrX;split<;>simp[twoB]<;>omega
 have h4:∀{b:Bool} {f c:UInt8} {x:UInt32},(if b=true then attrX f c (fourB x)else []).length≤8:=fun {b f c x}=>by
  have:=ax (f:=f) (c:=c) (v:=fourB x)
  rw[f4]at this
  split<;>first|omega|simp
 have hT:(if 0 < a.tags.length then attrX 192 8 (allB a.tags)else []).length≤4 + 4 * a.tags.length:=by
  have:=ax (f:=192) (c:=8) (v:=allB a.tags)
  rw[allB_len]at this
  split<;>first|omega|simp
 have p0:(rawP a 0).length=0:=rfl
 have p1:(rawP a 1).length=(rawP a 0).length + (attrX 64 1 [a.origin]).length:=by show(rawP a 0 ++ part a 0).length=_;rw[List.length_append];rfl
 have p2:(rawP a 2).length=(rawP a 1).length + (attrX 64 2 (pathB a.path)).length:=by show(rawP a 1 ++ part a 1).length=_;rw[List.length_append];rfl
 have p3:(rawP a 3).length=(rawP a 2).length + (attrX 64 3 (fourB a.next)).length:=by show(rawP a 2 ++ part a 2).length=_;rw[List.length_append];rfl
 have p4:(rawP a 4).length=(rawP a 3).length + (if a.hasMed then attrX 128 4 (fourB a.med)else []).length:=by show(rawP a 3 ++ part a 3).length=_;rw[List.length_append];rfl
 have p5:(rawP a 5).length=(rawP a 4).length + (if a.hasPref then attrX 64 5 (fourB a.pref)else []).length:=by show(rawP a 4 ++ part a 4).length=_;rw[List.length_append];rfl
 have a1:=ax (f:=64) (c:=1) (v:=[a.origin])
 have a2:=ax (f:=64) (c:=2) (v:=pathB a.path)
 have a3:=ax (f:=64) (c:=3) (v:=fourB a.next)
 rw[f4]at a3
 have a4:=h4 (b:=a.hasMed) (f:=128) (c:=4) (x:=a.med)
 have a5:=h4 (b:=a.hasPref) (f:=64) (c:=5) (x:=a.pref)
 have hP:∀k,k≤5→(rawP a k).length≤5000:=by
  intro k hk
  simp only[List.length_cons,List.length_nil]at a1
  rcases k with _|_|_|_|_|_|k<;>first|omega|(simp only[Nat.zero_add,Nat.reduceAdd];omega)
 have or80:bits BinOp.or IntKind.u8 64 16=80:=by decide
 have hP0:=hP 0 (by omega)
 have hP1:=hP 1 (by omega)
 have hP2:=hP 2 (by omega)
 have hP3:=hP 3 (by omega)
 have hP4:=hP 4 (by omega)
 have hP5:=hP 5 (by omega)
 clear p0 p1 p2 p3 p4 p5 a1 a2 a3 a4 a5 hT h4 hP
 cases hright:rightA a with
 | false=>
  rw[rawE_no hright]
  refine callV_of (fn:=Go.Proofs.Tryz.f114) (body:=_) tab_ok mixed rfl rfl (by decide) (by simp[Go.Proofs.Tryz.f114]) ?_
  conv=>whnf
  refine callV_pure (check_ok fr a) ⟨.free (encA_free _ _),trivial⟩ ?_
  rw[checkA_no hright]
  conv=>whnf
  exact Ends.pure [] (.tupL ⟨.snil_sl,.int_of rfl,trivial⟩) (by simp)
 | true=>
  rw[rawE_yes hright]
  refine callV_of (fn:=Go.Proofs.Tryz.f114) (body:=_) tab_ok mixed rfl rfl (by decide) (by simp[Go.Proofs.Tryz.f114]) ?_
  conv=>whnf
  refine callV_pure (check_ok fr a) ⟨.free (encA_free _ _),trivial⟩ ?_
  rw[checkA_yes hright]
  conv=>whnf
  refine callV_pure attributes_ok trivial ?_
  conv=>whnf
  refine callV_loop [(1,.ptr 0 0),(2,.ptr 1 0)] ⟨rfl,rfl,trivial⟩ fun asg' body' hasg hbody=>?_
  refine callV_of (fn:=Go.Proofs.Tryz.f231) (body:=_) tab_ok mixed rfl rfl (by decide) (by simp[Go.Proofs.Tryz.f231]) ?_
  conv=>whnf
  intro _
  conv=>whnf
  refine vcg_loop tab_ok mixed (fun k:{k:Nat // k≤6}=>⟨[(0,.yld 2),(5,.sl true 5 attrRows),(6,cI 6),(7,cI k.1)],[(2,some (.loop 52 [(1,.ptr 0 0),(2,.ptr 1 0)] [13] asg' body' .ready none)),(0,some (.var true 35 (cellsA fr a))),(1,some (.var true 127 [.osl 3 1 0 (rawP a k.1).length])),(3,some (.arr true false 5 1 (rowsB (rawP a k.1))))],4⟩) (fun k=>6 - k.1) ⟨0,by omega⟩ ?_ (fun k=>?_)
  ·refine Wk.of id [] ⟨.yld rfl (by omega),?_,.int_of rfl,.int_of rfl,trivial⟩ (LeH.of ⟨⟨by omega,.inl ⟨by simp,_,rfl,rfl,rfl,rfl,rfl,rfl,rfl,.ptr rfl (by omega),.ptr rfl (by omega),trivial⟩⟩,⟨by omega,.inl ⟨by simp,_,rfl,LeB.free cell⟩⟩,⟨by omega,.inl ⟨by simp,_,rfl,id,rfl,.osl0,trivial⟩⟩,⟨by omega,.inr ⟨by simp,_,_,_,_,rfl⟩⟩,trivial⟩ (fun _ _ _ _ h=>h) (fun _ _=>rfl) (by omega) (by simp))
   exact .free (.sl attrRows_free)
  obtain⟨k,hk⟩:=k
  rcases k with _|_|_|_|_|_|_|k
  case succ.succ.succ.succ.succ.succ.succ=>omega
  case succ.succ.succ.succ.succ.succ.zero=>
   conv=>whnf
   refine⟨_,_,_,Ends.here,?_⟩
   conv=>whnf
   exact Ends.pure [3] (.tupL ⟨.freezeB (bs:=rawP a 6) (by simp) rfl rfl rfl,.int_of rfl,trivial⟩) (one_none rfl)
  case zero=>
   conv=>whnf
   refine⟨rfl,_,⟨by simp,rfl⟩,?_⟩
   conv=>whnf
   subst hasg hbody
   refine roundV_of tab_ok mixed rfl (by simp) (show 2 < 5 by omega) ?_
   conv=>whnf
   refine⟨rfl,?_⟩
   conv=>whnf
   refine callV_pure (always_ok fr a) ⟨.free (encA_free _ _),trivial⟩ ?_
   conv=>whnf
   conv=>whnf
   refine callV_pure (vOrigin_ok fr a) ⟨.free (encA_free _ _),trivial⟩ ?_
   conv=>whnf
   refine fun(_:gd none _)=>?_
   conv=>whnf
   refine fun(_:gd none _)=>?_
   conv=>whnf
   refine⟨rfl,by simp,⟨rfl,rfl,rfl,rfl,by decide⟩,by simp,hbd _ (by simp;omega),?_⟩
   conv=>whnf
   refine⟨⟨rfl,rfl,rfl,rfl,by decide⟩,by simp,hbd _ (by simp[rawP];try omega),?_⟩
   conv=>whnf
   refine⟨rfl,?_⟩
   conv=>whnf
   refine⟨⟨1,by omega⟩,Wk.of (renOf [(3,8)]) [] ⟨.yld rfl (by omega),?_,.int_of rfl,.int_of ?_,trivial⟩ (LeH.of ⟨⟨by omega,.inl ⟨by simp,_,rfl,rfl,rfl,rfl,rfl,rfl,rfl,.ptr rfl (by omega),.ptr rfl (by omega),trivial⟩⟩,⟨by omega,.inl ⟨by simp,_,rfl,LeB.free cell⟩⟩,⟨by omega,.inl ⟨by simp,_,rfl,id,rfl,.osl_of rfl (by omega) ?_,trivial⟩⟩,⟨by omega,.inl ⟨by simp,_,rfl,LeB.eq_of ?_ (rowsB_free _)⟩⟩,trivial⟩ (show ∀b∈[2,0,1,3],∀b'∈[2,0,1,3],renOf [(3,8)] b=renOf [(3,8)] b'→b=b' by decide) (show ∀b,b < 3→renOf [(3,8)] b=b by decide) (by omega) (by simp)),by simp⟩
   ·exact .free (.sl attrRows_free)
   ·simp[wrap64']
   ·(simp[rawP,part,attrX,cell,rawP,Nat.add_assoc];try omega)
   ·simp[rawP,part,attrX,rowsB,u8_nat,wrap8,cell,rawP,Nat.add_assoc,List.take_of_length_le]
  case succ.succ.zero=>
   conv=>whnf
   refine⟨rfl,_,⟨by simp,rfl⟩,?_⟩
   conv=>whnf
   subst hasg hbody
   refine roundV_of tab_ok mixed rfl (by simp) (show 2 < 5 by omega) ?_
   conv=>whnf
   refine⟨rfl,?_⟩
   conv=>whnf
   refine callV_pure (always_ok fr a) ⟨.free (encA_free _ _),trivial⟩ ?_
   conv=>whnf
   conv=>whnf
   refine callV_pure (vNext_ok fr a) ⟨.free (encA_free _ _),trivial⟩ ?_
   conv=>whnf
   refine fun(_:gd none _)=>?_
   conv=>whnf
   refine fun(_:gd none _)=>?_
   conv=>whnf
   refine⟨rfl,by simp,⟨rfl,rfl,rfl,rfl,by decide⟩,by simp,hbd _ (by simp;omega),?_⟩
   conv=>whnf
   refine⟨⟨rfl,rfl,rfl,rfl,by decide⟩,by simp,hbd _ (by simp[f4];try omega),?_⟩
   conv=>whnf
   refine⟨rfl,?_⟩
   conv=>whnf
   refine⟨⟨3,by omega⟩,Wk.of (renOf [(3,8)]) [] ⟨.yld rfl (by omega),?_,.int_of rfl,.int_of ?_,trivial⟩ (LeH.of ⟨⟨by omega,.inl ⟨by simp,_,rfl,rfl,rfl,rfl,rfl,rfl,rfl,.ptr rfl (by omega),.ptr rfl (by omega),trivial⟩⟩,⟨by omega,.inl ⟨by simp,_,rfl,LeB.free cell⟩⟩,⟨by omega,.inl ⟨by simp,_,rfl,id,rfl,.osl_of rfl (by omega) ?_,trivial⟩⟩,⟨by omega,.inl ⟨by simp,_,rfl,LeB.eq_of ?_ (rowsB_free _)⟩⟩,trivial⟩ (show ∀b∈[2,0,1,3],∀b'∈[2,0,1,3],renOf [(3,8)] b=renOf [(3,8)] b'→b=b' by decide) (show ∀b,b < 3→renOf [(3,8)] b=b by decide) (by omega) (by simp)),by simp⟩
   ·exact .free (.sl attrRows_free)
   ·simp[wrap64']
   ·(simp[rawP,part,attrX,cell,f4,Nat.add_assoc];try omega)
   ·simp[rawP,part,attrX,rowsB,u8_nat,wrap8,cell,f4,Nat.add_assoc,List.take_of_length_le]
  case succ.succ.succ.zero=>
   conv=>whnf
   refine⟨rfl,_,⟨by simp,rfl⟩,?_⟩
   conv=>whnf
   subst hasg hbody
   refine roundV_of tab_ok mixed rfl (by simp) (show 2 < 5 by omega) ?_
   conv=>whnf
   refine⟨rfl,?_⟩
   conv=>whnf
   refine callV_pure (hasMed_ok fr a) ⟨.free (encA_free _ _),trivial⟩ ?_
   conv=>whnf
   split
   ·rename_i h
    have h:a.hasMed=false:=by simpa using h
    conv=>whnf
    refine⟨rfl,?_⟩
    conv=>whnf
    refine⟨⟨4,by omega⟩,Wk.of (renOf [(3,3)]) [] ⟨.yld rfl (by omega),?_,.int_of rfl,.int_of ?_,trivial⟩ (LeH.of ⟨⟨by omega,.inl ⟨by simp,_,rfl,rfl,rfl,rfl,rfl,rfl,rfl,.ptr rfl (by omega),.ptr rfl (by omega),trivial⟩⟩,⟨by omega,.inl ⟨by simp,_,rfl,LeB.free cell⟩⟩,⟨by omega,.inl ⟨by simp,_,rfl,id,rfl,.osl_of rfl (by omega) ?_,trivial⟩⟩,⟨by omega,.inl ⟨by simp,_,rfl,LeB.eq_of ?_ (rowsB_free _)⟩⟩,trivial⟩ (show ∀b∈[2,0,1,3],∀b'∈[2,0,1,3],renOf [(3,3)] b=renOf [(3,3)] b'→b=b' by decide) (show ∀b,b < 3→renOf [(3,3)] b=b by decide) (by omega) (by simp)),by simp⟩
    ·exact .free (.sl attrRows_free)
    ·simp[wrap64']
    ·(simp[rawP,part,attrX,h,cell,Nat.add_assoc];try omega)
    ·simp[rawP,part,attrX,rowsB,u8_nat,wrap8,h,cell,Nat.add_assoc,List.take_of_length_le]
   ·rename_i h
    have h:a.hasMed=true:=by simpa using h
    conv=>whnf
    refine callV_pure (vMed_ok fr a) ⟨.free (encA_free _ _),trivial⟩ ?_
    conv=>whnf
    refine fun(_:gd none _)=>?_
    conv=>whnf
    refine fun(_:gd none _)=>?_
    conv=>whnf
    refine⟨rfl,by simp,⟨rfl,rfl,rfl,rfl,by decide⟩,by simp,hbd _ (by simp;omega),?_⟩
    conv=>whnf
    refine⟨⟨rfl,rfl,rfl,rfl,by decide⟩,by simp,hbd _ (by simp[f4];try omega),?_⟩
    conv=>whnf
    refine⟨rfl,?_⟩
    conv=>whnf
    refine⟨⟨4,by omega⟩,Wk.of (renOf [(3,8)]) [] ⟨.yld rfl (by omega),?_,.int_of rfl,.int_of ?_,trivial⟩ (LeH.of ⟨⟨by omega,.inl ⟨by simp,_,rfl,rfl,rfl,rfl,rfl,rfl,rfl,.ptr rfl (by omega),.ptr rfl (by omega),trivial⟩⟩,⟨by omega,.inl ⟨by simp,_,rfl,LeB.free cell⟩⟩,⟨by omega,.inl ⟨by simp,_,rfl,id,rfl,.osl_of rfl (by omega) ?_,trivial⟩⟩,⟨by omega,.inl ⟨by simp,_,rfl,LeB.eq_of ?_ (rowsB_free _)⟩⟩,trivial⟩ (show ∀b∈[2,0,1,3],∀b'∈[2,0,1,3],renOf [(3,8)] b=renOf [(3,8)] b'→b=b' by decide) (show ∀b,b < 3→renOf [(3,8)] b=b by decide) (by omega) (by simp)),by simp⟩
    ·exact .free (.sl attrRows_free)
    ·simp[wrap64']
    ·(simp[rawP,part,attrX,h,f4,Nat.add_assoc];try omega)
    ·simp[rawP,part,attrX,rowsB,u8_nat,wrap8,h,f4,Nat.add_assoc,List.take_of_length_le]
  case succ.succ.succ.succ.zero=>
   conv=>whnf
   refine⟨rfl,_,⟨by simp,rfl⟩,?_⟩
   conv=>whnf
   subst hasg hbody
   refine roundV_of tab_ok mixed rfl (by simp) (show 2 < 5 by omega) ?_
   conv=>whnf
   refine⟨rfl,?_⟩
   conv=>whnf
   refine callV_pure (hasPref_ok fr a) ⟨.free (encA_free _ _),trivial⟩ ?_
   conv=>whnf
   split
   ·rename_i h
    have h:a.hasPref=false:=by simpa using h
    conv=>whnf
    refine⟨rfl,?_⟩
    conv=>whnf
    refine⟨⟨5,by omega⟩,Wk.of (renOf [(3,3)]) [] ⟨.yld rfl (by omega),?_,.int_of rfl,.int_of ?_,trivial⟩ (LeH.of ⟨⟨by omega,.inl ⟨by simp,_,rfl,rfl,rfl,rfl,rfl,rfl,rfl,.ptr rfl (by omega),.ptr rfl (by omega),trivial⟩⟩,⟨by omega,.inl ⟨by simp,_,rfl,LeB.free cell⟩⟩,⟨by omega,.inl ⟨by simp,_,rfl,id,rfl,.osl_of rfl (by omega) ?_,trivial⟩⟩,⟨by omega,.inl ⟨by simp,_,rfl,LeB.eq_of ?_ (rowsB_free _)⟩⟩,trivial⟩ (show ∀b∈[2,0,1,3],∀b'∈[2,0,1,3],renOf [(3,3)] b=renOf [(3,3)] b'→b=b' by decide) (show ∀b,b < 3→renOf [(3,3)] b=b by decide) (by omega) (by simp)),by simp⟩
    ·exact .free (.sl attrRows_free)
    ·simp[wrap64']
    ·(simp[rawP,part,attrX,h,cell,Nat.add_assoc];try omega)
    ·simp[rawP,part,attrX,rowsB,u8_nat,wrap8,h,cell,Nat.add_assoc,List.take_of_length_le]
   ·rename_i h
    have h:a.hasPref=true:=by simpa using h
    conv=>whnf
    refine callV_pure (vPref_ok fr a) ⟨.free (encA_free _ _),trivial⟩ ?_
    conv=>whnf
    refine fun(_:gd none _)=>?_
    conv=>whnf
    refine fun(_:gd none _)=>?_
    conv=>whnf
    refine⟨rfl,by simp,⟨rfl,rfl,rfl,rfl,by decide⟩,by simp,hbd _ (by simp;omega),?_⟩
    conv=>whnf
    refine⟨⟨rfl,rfl,rfl,rfl,by decide⟩,by simp,hbd _ (by simp[f4];try omega),?_⟩
    conv=>whnf
    refine⟨rfl,?_⟩
    conv=>whnf
    refine⟨⟨5,by omega⟩,Wk.of (renOf [(3,8)]) [] ⟨.yld rfl (by omega),?_,.int_of rfl,.int_of ?_,trivial⟩ (LeH.of ⟨⟨by omega,.inl ⟨by simp,_,rfl,rfl,rfl,rfl,rfl,rfl,rfl,.ptr rfl (by omega),.ptr rfl (by omega),trivial⟩⟩,⟨by omega,.inl ⟨by simp,_,rfl,LeB.free cell⟩⟩,⟨by omega,.inl ⟨by simp,_,rfl,id,rfl,.osl_of rfl (by omega) ?_,trivial⟩⟩,⟨by omega,.inl ⟨by simp,_,rfl,LeB.eq_of ?_ (rowsB_free _)⟩⟩,trivial⟩ (show ∀b∈[2,0,1,3],∀b'∈[2,0,1,3],renOf [(3,8)] b=renOf [(3,8)] b'→b=b' by decide) (show ∀b,b < 3→renOf [(3,8)] b=b by decide) (by omega) (by simp)),by simp⟩
    ·exact .free (.sl attrRows_free)
    ·simp[wrap64']
    ·(simp[rawP,part,attrX,h,f4,Nat.add_assoc];try omega)
    ·simp[rawP,part,attrX,rowsB,u8_nat,wrap8,h,f4,Nat.add_assoc,List.take_of_length_le]
  case succ.succ.succ.succ.succ.zero=>
   conv=>whnf
   refine⟨rfl,_,⟨by simp,rfl⟩,?_⟩
   conv=>whnf
   subst hasg hbody
   refine roundV_of tab_ok mixed rfl (by simp) (show 2 < 5 by omega) ?_
   conv=>whnf
   refine⟨rfl,?_⟩
   conv=>whnf
   refine callV_pure (hasTags_ok fr a) ⟨.free (encA_free _ _),trivial⟩ ?_
   conv=>whnf
   split
   ·rename_i h
    have h:¬ 0 < a.tags.length:=by simpa using h
    conv=>whnf
    refine⟨rfl,?_⟩
    conv=>whnf
    refine⟨⟨6,by omega⟩,Wk.of (renOf [(3,3)]) [] ⟨.yld rfl (by omega),?_,.int_of rfl,.int_of ?_,trivial⟩ (LeH.of ⟨⟨by omega,.inl ⟨by simp,_,rfl,rfl,rfl,rfl,rfl,rfl,rfl,.ptr rfl (by omega),.ptr rfl (by omega),trivial⟩⟩,⟨by omega,.inl ⟨by simp,_,rfl,LeB.free cell⟩⟩,⟨by omega,.inl ⟨by simp,_,rfl,id,rfl,.osl_of rfl (by omega) ?_,trivial⟩⟩,⟨by omega,.inl ⟨by simp,_,rfl,LeB.eq_of ?_ (rowsB_free _)⟩⟩,trivial⟩ (show ∀b∈[2,0,1,3],∀b'∈[2,0,1,3],renOf [(3,3)] b=renOf [(3,3)] b'→b=b' by decide) (show ∀b,b < 3→renOf [(3,3)] b=b by decide) (by omega) (by simp)),by simp⟩
    ·exact .free (.sl attrRows_free)
    ·simp[wrap64']
    ·(simp[rawP,part,attrX,h,if_neg,Nat.add_assoc];try omega)
    ·simp[rawP,part,attrX,rowsB,u8_nat,wrap8,h,if_neg,Nat.add_assoc,List.take_of_length_le]
   ·rename_i h
    have h:0 < a.tags.length:=by simpa using h
    have hs:¬ 255 < (allB a.tags).length:=by rw[allB_len];omega
    conv=>whnf
    refine callV_pure (vTags_ok fr a hf) ⟨.free (encA_free _ _),trivial⟩ ?_
    conv=>whnf
    refine fun(_:gd none _)=>?_
    conv=>whnf
    split
    ·rename_i hb
     exact absurd hb (by simp;omega)
    rename_i hb
    conv=>whnf
    refine fun(_:gd none _)=>?_
    conv=>whnf
    refine⟨rfl,by simp,⟨rfl,rfl,rfl,rfl,by decide⟩,by simp,hbd _ (by simp;omega),?_⟩
    conv=>whnf
    refine⟨⟨rfl,rfl,rfl,rfl,by decide⟩,by simp,hbd _ (by simp;omega),?_⟩
    conv=>whnf
    refine⟨rfl,?_⟩
    conv=>whnf
    refine⟨⟨6,by omega⟩,Wk.of (renOf [(3,8)]) [] ⟨.yld rfl (by omega),?_,.int_of rfl,.int_of ?_,trivial⟩ (LeH.of ⟨⟨by omega,.inl ⟨by simp,_,rfl,rfl,rfl,rfl,rfl,rfl,rfl,.ptr rfl (by omega),.ptr rfl (by omega),trivial⟩⟩,⟨by omega,.inl ⟨by simp,_,rfl,LeB.free cell⟩⟩,⟨by omega,.inl ⟨by simp,_,rfl,id,rfl,.osl_of rfl (by omega) ?_,trivial⟩⟩,⟨by omega,.inl ⟨by simp,_,rfl,LeB.eq_of ?_ (rowsB_free _)⟩⟩,trivial⟩ (show ∀b∈[2,0,1,3],∀b'∈[2,0,1,3],renOf [(3,8)] b=renOf [(3,8)] b'→b=b' by decide) (show ∀b,b < 3→renOf [(3,8)] b=b by decide) (by omega) (by simp)),by simp⟩
    ·exact .free (.sl attrRows_free)
    ·simp[wrap64']
    ·(simp[rawP,part,attrX,h,hs,Nat.add_assoc];try omega)
    ·simp[rawP,part,attrX,rowsB,u8_nat,wrap8,h,hs,Nat.add_assoc,List.take_of_length_le]
  case succ.zero=>
   conv=>whnf
   refine⟨rfl,_,⟨by simp,rfl⟩,?_⟩
   conv=>whnf
   subst hasg hbody
   refine roundV_of tab_ok mixed rfl (by simp) (show 2 < 5 by omega) ?_
   conv=>whnf
   refine⟨rfl,?_⟩
   conv=>whnf
   refine callV_pure (always_ok fr a) ⟨.free (encA_free _ _),trivial⟩ ?_
   conv=>whnf
   conv=>whnf
   refine callV_pure (route_ok fr a hf) ⟨.free (encA_free _ _),trivial⟩ ?_
   conv=>whnf
   refine fun(_:gd none _)=>?_
   conv=>whnf
   split
   ·rename_i hb
    have hs:255 < (pathB a.path).length:=by simp at hb;omega
    conv=>whnf
    refine⟨rfl,by simp,⟨rfl,rfl,rfl,rfl,by decide⟩,by simp,hbd _ (by simp;omega),?_⟩
    conv=>whnf
    refine fun(_:gd none _)=>?_
    conv=>whnf
    refine callV_pure (highI_ok (pathB a.path).length (by omega)) ⟨.int_of (by simp),.free .int,trivial⟩ ?_
    conv=>whnf
    refine⟨⟨rfl,rfl,rfl,rfl,by decide⟩,by simp,hbd _ (by simp[twoB];omega),?_⟩
    conv=>whnf
    refine⟨⟨rfl,rfl,rfl,rfl,by decide⟩,by simp,hbd _ (by simp[twoB];omega),?_⟩
    conv=>whnf
    refine⟨rfl,?_⟩
    conv=>whnf
    refine⟨⟨2,by omega⟩,Wk.of (renOf [(3,9)]) [] ⟨.yld rfl (by omega),?_,.int_of rfl,.int_of ?_,trivial⟩ (LeH.of ⟨⟨by omega,.inl ⟨by simp,_,rfl,rfl,rfl,rfl,rfl,rfl,rfl,.ptr rfl (by omega),.ptr rfl (by omega),trivial⟩⟩,⟨by omega,.inl ⟨by simp,_,rfl,LeB.free cell⟩⟩,⟨by omega,.inl ⟨by simp,_,rfl,id,rfl,.osl_of rfl (by omega) ?_,trivial⟩⟩,⟨by omega,.inl ⟨by simp,_,rfl,LeB.eq_of ?_ (rowsB_free _)⟩⟩,trivial⟩ (show ∀b∈[2,0,1,3],∀b'∈[2,0,1,3],renOf [(3,9)] b=renOf [(3,9)] b'→b=b' by decide) (show ∀b,b < 3→renOf [(3,9)] b=b by decide) (by omega) (by simp)),by simp⟩
    ·exact .free (.sl attrRows_free)
    ·simp[wrap64']
    ·(simp[rawP,part,attrX,hs,twoB,or80,Nat.add_assoc];try omega)
    ·simp[rawP,part,attrX,rowsB,u8_nat,wrap8,hs,twoB,or80,Nat.add_assoc,List.take_of_length_le]
   ·rename_i hb
    have hs:¬ 255 < (pathB a.path).length:=by simp at hb;omega
    conv=>whnf
    refine fun(_:gd none _)=>?_
    conv=>whnf
    refine⟨rfl,by simp,⟨rfl,rfl,rfl,rfl,by decide⟩,by simp,hbd _ (by simp;omega),?_⟩
    conv=>whnf
    refine⟨⟨rfl,rfl,rfl,rfl,by decide⟩,by simp,hbd _ (by simp;omega),?_⟩
    conv=>whnf
    refine⟨rfl,?_⟩
    conv=>whnf
    refine⟨⟨2,by omega⟩,Wk.of (renOf [(3,8)]) [] ⟨.yld rfl (by omega),?_,.int_of rfl,.int_of ?_,trivial⟩ (LeH.of ⟨⟨by omega,.inl ⟨by simp,_,rfl,rfl,rfl,rfl,rfl,rfl,rfl,.ptr rfl (by omega),.ptr rfl (by omega),trivial⟩⟩,⟨by omega,.inl ⟨by simp,_,rfl,LeB.free cell⟩⟩,⟨by omega,.inl ⟨by simp,_,rfl,id,rfl,.osl_of rfl (by omega) ?_,trivial⟩⟩,⟨by omega,.inl ⟨by simp,_,rfl,LeB.eq_of ?_ (rowsB_free _)⟩⟩,trivial⟩ (show ∀b∈[2,0,1,3],∀b'∈[2,0,1,3],renOf [(3,8)] b=renOf [(3,8)] b'→b=b' by decide) (show ∀b,b < 3→renOf [(3,8)] b=b by decide) (by omega) (by simp)),by simp⟩
    ·exact .free (.sl attrRows_free)
    ·simp[wrap64']
    ·(simp[rawP,part,attrX,hs,cell,Nat.add_assoc];try omega)
    ·simp[rawP,part,attrX,rowsB,u8_nat,wrap8,hs,cell,Nat.add_assoc,List.take_of_length_le]
end
theorem attrX_eq (f c:UInt8) (v:List UInt8):attrX f c v=attrB f c v:=by
 unfold attrX attrB twoB
 split
 ·have:UInt8.ofNat (v.length % 256)=UInt8.ofNat v.length:=by
   apply UInt8.toNat_inj.1
   simp
  rw[this]
  rfl
 ·rfl
theorem rawP_eq (a:Attrs):rawP a 6=rawA a:=by
 simp only[rawP,part,rawA,rawO,attrX_eq,List.nil_append,List.append_assoc]
section
open Go.Proofs.Tryz (prog)
attribute [local irreducible] CallV RoundV
def firstOf (a:Attrs):UInt32:=match a.path with
 | p :: _=>if p.set then 0 else p.ns.headD 0
 | []=>0
theorem first_ok (fr:Bool) (a:Attrs):PCon prog 229 [encA fr a] (cW (firstOf a)):=by
 have fin:∀{s:St} {n:Int},n=((firstOf a).toNat:Int)→∃v1 h' nx',Ends 0 s (.int .u32 n) v1 h' nx'∧(v1=cW (firstOf a)∧h'=[]∧nx'=0):=fun h=>Ends.pure [] (.int_of h) (by simp)
 obtain⟨o,path,nxt,hm,m,hp,p,tags⟩:=a
 cases path with
 | nil=>
  refine callV_of (fn:=Go.Proofs.Tryz.f229) (body:=_) tab_ok mixed rfl rfl (by decide) (by simp[Go.Proofs.Tryz.f229]) ?_
  conv=>whnf
  intro _
  conv=>whnf
  exact fin (by simp[firstOf])
 | cons p0 r=>
  obtain⟨set,ns⟩:=p0
  cases set with
  | true=>
   refine callV_of (fn:=Go.Proofs.Tryz.f229) (body:=_) tab_ok mixed rfl rfl (by decide) (by simp[Go.Proofs.Tryz.f229]) ?_
   conv=>whnf
   intro _
   conv=>whnf
   refine⟨rfl,_,⟨by omega,rfl⟩,?_⟩
   conv=>whnf
   exact fin (by simp[firstOf])
  | false=>
   cases ns with
   | nil=>
    refine callV_of (fn:=Go.Proofs.Tryz.f229) (body:=_) tab_ok mixed rfl rfl (by decide) (by simp[Go.Proofs.Tryz.f229]) ?_
    conv=>whnf
    intro _
    conv=>whnf
    refine⟨rfl,_,⟨by omega,rfl⟩,?_⟩
    conv=>whnf
    refine⟨rfl,_,⟨by omega,rfl⟩,?_⟩
    conv=>whnf
    intro _
    conv=>whnf
    exact fin (by simp[firstOf])
   | cons n0 ns=>
    refine callV_of (fn:=Go.Proofs.Tryz.f229) (body:=_) tab_ok mixed rfl rfl (by decide) (by simp[Go.Proofs.Tryz.f229]) ?_
    conv=>whnf
    intro _
    conv=>whnf
    refine⟨rfl,_,⟨by omega,rfl⟩,?_⟩
    conv=>whnf
    refine⟨rfl,_,⟨by omega,rfl⟩,?_⟩
    conv=>whnf
    intro _
    conv=>whnf
    refine⟨rfl,_,⟨by omega,rfl⟩,?_⟩
    conv=>whnf
    refine⟨rfl,_,⟨by omega,rfl⟩,?_⟩
    conv=>whnf
    exact fin (by simp[firstOf])
end
section
open Go.Proofs.Tryz (prog)
attribute [local irreducible] CallV RoundV
def lenOf (p:Leg):Nat:=if p.set then 1 else p.ns.length
def lengthOf (l:List Leg):Nat:=(l.map lenOf).sum
end
section
open Go.Proofs.Tryz (prog)
attribute [local irreducible] CallV RoundV
abbrev rowsW (b:List UInt32):List (List V):=b.map fun x=>[V.int .u32 x.toNat]
def numsK (b:List UInt8) (k:Nat):List UInt32:=(List.range k).map fun j=>wordOf ((b.drop (4 * j)).take 4)
end
end Go.Proofs.YteogfjpaljbkoaaGreat
