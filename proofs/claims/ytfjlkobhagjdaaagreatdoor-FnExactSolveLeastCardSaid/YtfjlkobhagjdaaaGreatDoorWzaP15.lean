import Derived.Test.YtfjlkobhagjdaaaGreatDoorWzaP14
/- A part of the proof. -/
set_option linter.all false
set_option maxRecDepth 9999
set_option maxHeartbeats 2000000
noncomputable section
section
namespace Go.Proofs.YtfjlkobhagjdaaaGreatDoor
open Go Go.Vc Go.Proofs
open Go.RowKit
theorem XM {x y:String×DataW Unit} {r:List (String×DataW Unit)} {w:World} (h:laidMet P (x::y::r) w):laidMet P (x::r) w:=by
 obtain⟨ps,u,j,c⟩:=h;obtain⟨n,d⟩:=x;obtain⟨m,e⟩:=y;obtain⟨g,t,cs,fuel,p,q,o,a2,a3,a4,s,rfl⟩:=u;obtain⟨g2,t2,f,i,p2,l,_,_,_,_,k,rfl⟩:=s;have a:=pn (pK (MemPlace.row ⟨g,0,none⟩ cs.size++p)) (List.sublist_append_right (MemPlace.row ⟨g2,0,none⟩ f.size++p2) l);exact⟨_,⟨g,t,cs,fuel,p,l,o,a2,a3,a4,k,rfl⟩,List.Nodup.sublist a j,λb off hm=>c b off (a.subset hm)⟩
theorem jD {W:World} {g:Nat} {a c:Addr} (h:Sent W g a) (b:Sent W g c):a=c:=by
 unfold Sent at h b;rw[h] at b
 injection b with b
 injection b with _ b
 injection b with b
 exact K3 b
theorem Z6 {j k:String} {t0 t1:List UInt8} {r:List (String×DataW Unit)} {W:World} {g0 g1:Nat} (h:laidMet P ((j,.iface "*errors.errorString" (.ptr (.agg [.lit (.string t0)])))::(k,.iface "*errors.errorString" (.ptr (.agg [.lit (.string t1)])))::r) W)
  (c:P.globalNamed j=some g0) (g:(P.globals[g0]?).map (·.type)=some xu) (d:P.globalNamed k=some g1) (i:(P.globals[g1]?).map (·.type)=some xu):∃a b,Sent W g0 a/\Sent W g1 b/\a≠b/\RowA W a/\RowA W b:=by
 obtain⟨ms,hi⟩:=xo0;obtain⟨f,m,n,o⟩:=yk0;obtain⟨a0,l,u,s1,c0,c1,s,t,v0,v1,_,_,_,_,_,_,e,p,q⟩:=laid_sentinels2 h c g d i hi ki0 kj0 m n o yl0 Y60.1 Y60.2;exact⟨a0,l,by unfold Sent;simpa using World.var?_cell c v0 0,by unfold Sent;simpa using World.var?_cell d v1 0,e,⟨c0,s,p⟩,⟨c1,t,q⟩⟩
theorem er_of {nr nb nt nn nm:String} {tr tb tt tn tm:List UInt8} {r l:List (String×DataW Unit)} {W:World} (h:laidMet P l W) (k:Nat)
  (B:l.drop k=(nr,.iface "*errors.errorString" (.ptr (.agg [.lit (.string tr)])))::(nb,.iface "*errors.errorString" (.ptr (.agg [.lit (.string tb)])))::(nt,.iface "*errors.errorString" (.ptr (.agg [.lit (.string tt)])))::(nn,.iface "*errors.errorString" (.ptr (.agg [.lit (.string tn)])))::(nm,.iface "*errors.errorString" (.ptr (.agg [.lit (.string tm)])))::r)
  (er:P.globalNamed nr=some xQ) (eb:P.globalNamed nb=some j8) (et:P.globalNamed nt=some yO) (en:P.globalNamed nn=some jj) (em:P.globalNamed nm=some qr)
  (fr:(P.globals[xQ]?).map (·.type)=some xu) (fb:(P.globals[j8]?).map (·.type)=some xu) (ft:(P.globals[yO]?).map (·.type)=some xu) (fn:(P.globals[jj]?).map (·.type)=some xu) (fm:(P.globals[qr]?).map (·.type)=some xu):
  ∃at_ an am ar ab,Er W at_ an am ar ab:=by
 have a:=laid_at h k;rw[B] at a;obtain⟨ar,ab,sr,sb,_,rr,_⟩:=Z6 a er fr eb fb;have b:=XM a;obtain⟨w,at_,j,st,C,_,rt⟩:=Z6 b er fr et ft;have q:=XM b;obtain⟨x,an,m,sn,D,_,rn⟩:=Z6 q er fr en fn;obtain⟨y,am,n,sm,E,_,rm⟩:=Z6 (XM q) er fr em fm;have c:=b.tail;obtain⟨z,u,o,g,F,_⟩:=Z6 c et ft en fn;obtain⟨A,s,p,d,G,_⟩:=Z6 (XM c) et ft em fm;obtain⟨v,t,i,f,n6,_⟩:=Z6 c.tail en fn em fm;obtain rfl:=jD j sr;obtain rfl:=jD m sr;obtain rfl:=jD n sr;obtain rfl:=jD o st;obtain rfl:=jD p st;obtain rfl:=jD g sn;obtain rfl:=jD i sn;obtain rfl:=jD d sm;obtain rfl:=jD f sm;exact⟨_,_,_,_,ab,st,sn,sm,⟨sr,sb,id,id⟩,rt,rn,rm,rr,λe=>F e.symm,λe=>G e.symm,λe=>n6 e.symm,C,D,E⟩
end Go.Proofs.YtfjlkobhagjdaaaGreatDoor
end
end
