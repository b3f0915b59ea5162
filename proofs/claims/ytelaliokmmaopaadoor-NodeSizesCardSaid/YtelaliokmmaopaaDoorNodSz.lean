/- NodeSizes: the walk and what opens a node. -/
import Derived.Test.YtelaliokmmaopaaDoorNodD
import Derived.Test.YtelaliokmmaopaaDoorFrN
